/- ZkC27: contracts: R34's image, put together. -/
import Derived.Test.YtolfkdphlgkekaaGreatDoorGe
import Derived.Test.YtolfkdphlgkekaaGreatDoorGf
import Derived.Test.YtolfkdphlgkekaaGreatDoorGd
import Derived.Test.YtolfkdphlgkekaaGreatDoorRows
import Derived.ProofKit
import Derived.OpenShut
import Derived.JoinedCond
namespace Go.Pm
open Go Go.Proofs
attribute [-simp] List.getElem?_map

/-- Whatever is the one is the other, too. -/
def Wk (x y : AV) : Prop := ∀ (σ : Sig) (K : Bool → Nat → Prop) (w : World) (u : Value), VR σ K w x u → VR σ K w y u
theorem Wk.nil {p : Bool} {sz : Nat} : Wk .nilS (.list p sz []) := by
  intro σ K w u h
  simp only [VR] at h ⊢
  exact ⟨none, 0, 0, 0, h, Nat.le_refl _, .inl trivial, by simp [LR]⟩

theorem Sim.weak_cell {e : Env} {m : Mem} {pos g : Nat} {vs : List AV} (i : Nat) {x y : AV} (hp : m.store[pos]? = some (g, .cells vs)) (hi : vs[i]? = some x) (hw : Wk x y) :
    Sim e (m.put pos g (.cells (vs.set i y))) e m := by
  intro β N a w σ K hst
  refine ⟨σ, List.prefix_refl _, ?_, hst.env, hst.defers, hst.size⟩
  obtain ⟨s, hs, ho⟩ := hst.rel.objs pos g _ hp
  refine hst.rel.put hp hs ⟨rfl, rfl, rfl, Nat.le_refl _, fun _ _ _ => rfl⟩ ?_
  obtain ⟨b, c⟩ := s
  cases b with
  | none => exact ho
  | some b =>
    obtain ⟨cur, e, hb, hl, hcr⟩ := ho
    refine ⟨cur, e, hb, by rw [List.length_set]; exact hl, CR_iff.2 fun j z hj => ?_⟩
    rw [List.getElem?_set] at hj
    split at hj
    · rename_i hij
      subst hij
      split at hj
      · injection hj with hj; subst hj
        obtain ⟨u, hu1, hu2, hu3⟩ := CR_iff.1 hcr i _ hi
        exact ⟨u, hu1, hu2, hw _ _ _ _ hu3⟩
      · cases hj
    · exact CR_iff.1 hcr j z hj

def zeros (n : Nat) : ByteArray := ⟨Array.replicate n 0⟩
def padF (c : ByteArray) : ByteArray := c ++ zeros ((8 - c.size % 8) % 8)
theorem padF_same {c : ByteArray} (h : c.size % 8 = 0) : padF c = c := by
  unfold padF; rw [h]; exact ByteArray.append_empty
theorem zeros_one (n : Nat) : (⟨#[0]⟩ : ByteArray) ++ zeros n = zeros (n + 1) := by
  apply ByteArray.ext
  rw [ByteArray.data_append]
  unfold zeros
  rw [Array.replicate_succ', ← Array.toList_inj]
theorem zeros_size (n : Nat) : (zeros n).size = n := by simp [zeros, ByteArray.size]
theorem padF_more {c : ByteArray} (h : c.size % 8 ≠ 0) : padF (c ++ ⟨#[0]⟩) = padF c := by
  have e : ∃ n, (8 - c.size % 8) % 8 = n + 1 ∧ (8 - (c.size + 1) % 8) % 8 = n := ⟨(8 - c.size % 8) % 8 - 1, by omega, by omega⟩
  obtain ⟨n, h1, h2⟩ := e
  have hs : (c ++ ⟨#[0]⟩ : ByteArray).size = c.size + 1 := by rw [ByteArray.size_append]; rfl
  unfold padF
  rw [hs, h1, h2, ByteArray.append_assoc, zeros_one]
theorem padF_size (c : ByteArray) : (padF c).size = (c.size + 7) / 8 * 8 := by
  unfold padF; rw [ByteArray.size_append]
  rw [zeros_size]; omega

/-- R34's image as far as it is put together. -/
structure RSt where
  starts : List Int
  code : ByteArray
  defs : List DDef
  lines : List DLine
  names : List DDef

def addDefs (at_ : Int) (ds : List DDef) (acc : List DDef) : List DDef := ds.foldl (fun a d => definedF a ⟨d.name, at_ + d.at_⟩) acc
def putR (base : Int) (s : RSt) (o : Deck) : RSt :=
  ⟨s.starts ++ [base + (padF s.code).size], padF s.code ++ o.code, addDefs (base + (padF s.code).size) (defsF o) s.defs, s.lines ++ o.lines.map (fun x => ⟨base + (padF s.code).size + x.at_, x.stmt⟩), s.names ++ [⟨o.name, base + (padF s.code).size⟩]⟩
def RSt.start : RSt := ⟨[], ⟨#[]⟩, [], [], []⟩
def putAllR (base : Int) (s : RSt) (l : List Deck) : RSt := l.foldl (putR base) s
def findR (root defs : List DDef) (n : ByteArray) : Int := (outerF root n).getD ((outerF defs n).getD 0)
def setFour (c : ByteArray) (p : Nat) (n : Int) : ByteArray := c.extract 0 p ++ fourF n ++ c.extract (p + 4) c.size
def patchR (root defs : List DDef) (off : Int) : List DRef → ByteArray → ByteArray
  | [], c => c
  | r :: rs, c => patchR root defs off rs (setFour c (off + r.at_).toNat (findR root defs r.name + r.plus))
def patchAllR (root defs : List DDef) (base : Int) : List (Deck × Int) → ByteArray → ByteArray
  | [], c => c
  | (o, a) :: l, c => patchAllR root defs base l (patchR root defs (a - base) o.refs c)
def imgR (base : Int) (root : List DDef) (l : List Deck) : Img :=
  ⟨base, patchAllR root (putAllR base .start l).defs base (l.zip (putAllR base .start l).starts) (putAllR base .start l).code, (putAllR base .start l).defs, (putAllR base .start l).lines, (putAllR base .start l).names⟩
instance : Inhabited (Deck × Int) := ⟨(default, default)⟩

theorem definedF_len (l : List DDef) (d : DDef) : (definedF l d).length ≤ l.length + 1 := by
  unfold definedF; split
  · omega
  · simp; omega
theorem addDefs_len (a : Int) : ∀ (ds acc : List DDef), (addDefs a ds acc).length ≤ acc.length + ds.length
  | [], acc => by simp [addDefs]
  | d :: ds, acc => by
    have ih := addDefs_len a ds (definedF acc ⟨d.name, a + d.at_⟩)
    have := definedF_len acc ⟨d.name, a + d.at_⟩
    simp only [addDefs, List.foldl_cons, List.length_cons] at ih ⊢
    omega
theorem defsF_fit {o : Deck} (h : o.Fit) : ∀ d ∈ defsF o, 0 ≤ d.at_ ∧ d.at_ ≤ 1048576 := by
  intro d hd
  unfold defsF at hd
  split at hd
  · exact h.defs d hd
  · rcases List.mem_append.1 hd with hd | hd
    · exact h.defs d hd
    · rw [List.mem_singleton] at hd; subst hd; exact ⟨Int.le_refl _, by simp⟩

structure RSt.Ok (base : Int) (l : List Deck) (s : RSt) (i : Nat) : Prop where
  starts : s.starts.length = i
  names : s.names.length = i
  code : s.code.size ≤ 20008 * i
  defs : s.defs.length ≤ 1048577 * i
  lines : s.lines.length ≤ 1048576 * i
  at_ : ∀ j, j < i → base ≤ ix s.starts j ∧ ix s.starts j - base + (ix l j).code.size ≤ s.code.size

theorem ix_append_lt {α : Type} [Inhabited α] {a b : List α} {j : Nat} (h : j < a.length) : ix (a ++ b) j = ix a j := by
  simp [ix, List.getD, h, List.getElem?_append_left]
theorem ix_append_at {α : Type} [Inhabited α] {a : List α} {x : α} {j : Nat} (h : j = a.length) : ix (a ++ [x]) j = x := by
  subst h; simp [ix, List.getD]

theorem putR_ok {base : Int} {l : List Deck} {s : RSt} {i : Nat} (h : s.Ok base l i) (hf : ∀ o ∈ l, o.Fit) (hi : i < l.length) : (putR base s (ix l i)).Ok base l (i + 1) := by
  have hfit := hf _ (ix_mem hi)
  have c1 := hfit.code
  have c2 := hfit.small.defs
  have c9003 := hfit.small.lines
  have c9004 := defsF_len (ix l i)
  have c9005 := addDefs_len (base + (padF s.code).size) (defsF (ix l i)) s.defs
  have c9006 := padF_size s.code
  obtain ⟨h1, h2, h3, h4, h5, h6⟩ := h
  refine ⟨by simp [putR, h1], by simp [putR, h2], ?_, ?_, ?_, fun j hj => ?_⟩
  · simp only [putR, ByteArray.size_append]; omega
  · simp only [putR]; omega
  · simp only [putR, List.length_append, List.length_map]; omega
  · simp only [putR, ByteArray.size_append]
    rcases Nat.lt_or_ge j i with h7 | h7
    · have := h6 j h7
      rw [ix_append_lt (by omega)]; omega
    · have hj : j = i := by omega
      subst hj
      rw [ix_append_at h1.symm]; omega

theorem fourF_wrap (n : Int) : fourF (IntKind.i64.wrap n) = fourF n := by
  have h : ∃ k : Int, IntKind.i64.wrap n = n + k * 18446744073709551616 := by
    simp [IntKind.wrap, IntKind.bits, IntKind.signed]
    split
    · exact ⟨-(n / 18446744073709551616) - 1, by omega⟩
    · exact ⟨-(n / 18446744073709551616), by omega⟩
  obtain ⟨k, h⟩ := h
  have e : ∀ (j : Nat) (q : Int), q = 2 ^ j → (q = 16777216 ∨ q = 65536 ∨ q = 256 ∨ q = 1) → IntKind.u8.wrap ((n + k * 18446744073709551616).fdiv (2 ^ j)) = IntKind.u8.wrap (n.fdiv (2 ^ j)) := by
    intro j q hq hc
    rw [← hq, u8_wrap, u8_wrap, Int.fdiv_eq_ediv_of_nonneg _ (by omega), Int.fdiv_eq_ediv_of_nonneg _ (by omega)]
    rcases hc with rfl | rfl | rfl | rfl <;> omega
  rw [h]
  unfold fourF byteF
  rw [e 24 _ rfl (by decide), e 16 _ rfl (by decide), e 8 _ rfl (by decide), e 0 _ rfl (by decide)]

def M38 (base : Int) (c : ByteArray) (df : List DDef) (ls : List DLine) (nm : List DDef) (st : List Int) (gs gn gl nx : Nat) : Mem :=
  ⟨[(0, .cells [.int .i64 0, .str ⟨#[]⟩, .nilS, .nilS, .nilS]), (1, .cells [.int .i64 base, .str c, .list true 2 (df.map DDef.av), .row 4 gl 2 0 ls.length, .row 3 gn 2 0 nm.length]),
    (gs, .row 3 1 (st.map fun x => [.int .i64 x])), (gn, .row 65 2 (nm.map DDef.av)), (gl, .row 79 2 (ls.map DLine.av))], nx⟩

theorem nil38 (base : Int) {e : Env} (he : e.get 8 = .nilS) : Sim (e.set 8 (.row 2 2 1 0 0)) (M38 base ⟨#[]⟩ [] [] [] [] 2 3 4 5) e ⟨[(0, .cells [.int .i64 0, .str ⟨#[]⟩, .nilS, .nilS, .nilS]), (1, .cells [.int .i64 base, .str ⟨#[]⟩, .nilS, .nilS, .nilS])], 2⟩ := by
  refine Sim.after (Sim.weak_cell (pos := 1) (g := 1) 2 (y := .list true 2 []) rfl rfl Wk.nil) ?_
  refine Sim.after (Sim.nil_env 8 3 (sz := 1) (by omega) he) ?_
  refine Sim.after (Sim.nil_cell (pos := 1) (g := 1) 4 65 (sz := 2) (by omega) rfl rfl) ?_
  exact Sim.nil_cell (pos := 1) (g := 1) (vs := [.int .i64 base, .str ⟨#[]⟩, .list true 2 [], .nilS, .row 3 3 2 0 0]) 3 79 (sz := 2) (by omega) rfl rfl

set_option maxHeartbeats 4000000 in
theorem call98 (p r : Bool) (l : List Deck) (base : Int) (root : List DDef) (hf : ∀ o ∈ l, o.Fit) (hr : ∀ o ∈ l, RefsFit o) (hl : l.length ≤ 2000000) (hrl : root.length ≤ 4000000000000) (hb0 : 0 ≤ base) (hb1 : base ≤ 65536) :
    PCalls Zk.pg 98 [.list p 5 (l.map Deck.av), .int .i64 base, .list r 2 (root.map DDef.av)] fun out => out = .ret (.agg (imgR base root l).av) := by
  refine ok98.pcalls (by simp) ?_
  simp [c98]
  obtain ⟨F, hF⟩ : ∃ F : RSt, F = putAllR base .start l := ⟨_, rfl⟩
  refine wpS_loopS (ι := (Nat × RSt) × (Nat × Nat × Nat × Nat)) (fun g => [(0, .list p 5 (l.map Deck.av)), (1, .int .i64 base), (2, .list r 2 (root.map DDef.av)), (6, .ptr 0 0 0), (7, .ptr 1 1 0), (8, .row 2 g.2.1 1 0 g.1.2.starts.length), (9, .int .i64 g.1.1)])
    (fun g => M38 base g.1.2.code g.1.2.defs g.1.2.lines g.1.2.names g.1.2.starts g.2.1 g.2.2.1 g.2.2.2.1 g.2.2.2.2) (fun g => l.length - g.1.1)
    (fun g => g.1.1 ≤ l.length ∧ F = putAllR base g.1.2 (l.drop g.1.1) ∧ g.1.2.Ok base l g.1.1)
    ((0, .start), (2, 3, 4, 5)) ⟨Nat.zero_le _, by rw [hF]; rfl, ⟨rfl, rfl, by simp [RSt.start]; rfl, Nat.zero_le _, Nat.zero_le _, fun j hj => absurd hj (Nat.not_lt_zero _)⟩⟩ (Sim.after (nil38 base (by simp)) (Sim.of_le (Env.le_of (by simp [RSt.start])) (Mem.le_of rfl (by simp [M38, RSt.start])))) ?_
  intro ⟨⟨i, s⟩, ⟨gs, gn, gl, nx⟩⟩ ⟨hi, hall, hok⟩
  simp only at hi hall hok
  have hw : IntKind.i64.wrap (i + 1) = i + 1 := wrap64 (by omega) (by omega)
  simp [M38]
  refine br_cond rfl (fun h => ?_) (fun h => ?_)
  · have hlt : i < l.length := by have := ltI_t.1 h; omega
    have hfit := hf _ (ix_mem hlt)
    have c1 := hfit.code
    have c2 := hfit.small.defs
    have c9003 := hfit.small.lines
    have c9004 := defsF_len (ix l i)
    have c9006 := padF_size s.code
    have hk2 := putR_ok hok hf hlt
    obtain ⟨hs1, hs2, hs3, hs4, hs5, hs6⟩ := hok
    rw [drop_ix hlt] at hall
    simp only [putAllR, List.foldl_cons] at hall
    generalize ho : ix l i = o at *
    simp [h]
    refine wpS_loop (ι := ByteArray) (fun _ => [(0, .list p 5 (l.map Deck.av)), (1, .int .i64 base), (2, .list r 2 (root.map DDef.av)), (6, .ptr 0 0 0), (7, .ptr 1 1 0), (8, .row 2 gs 1 0 s.starts.length), (9, .int .i64 i)])
      (fun c => M38 base c s.defs s.lines s.names s.starts gs gn gl nx) (fun c => (8 - c.size % 8) % 8) (fun c => padF c = padF s.code ∧ c.size ≤ s.code.size + 8 ) s.code ⟨rfl, by omega⟩ (Env.le_of (by simp)) (by simp [M38]) ?_
    intro c ⟨hc1, hc2⟩
    have hcb : c.size + 1 ≤ 9223372036854775807 := by omega
    simp [M38]
    refine br_cond rfl (fun h1 => ?_) (fun h1 => ?_)
    · simp at h1
      have h8 : c.size % 8 ≠ 0 := by
        have := eqI_f.1 h1
        intro h9
        exact this (by rw [Int.tmod_eq_emod_of_nonneg (by omega)]; omega)
      have h10 : s.code.size % 8 ≠ 0 → c.size ≤ s.code.size + 8 := fun _ => hc2
      have hsz : (c ++ ⟨#[0]⟩ : ByteArray).size = c.size + 1 := by rw [ByteArray.size_append]; rfl
      have hz1 : (⟨#[0]⟩ : ByteArray).size = 1 := rfl
      have hm := padF_more h8
      have hps := padF_size c
      rw [hc1, c9006] at hps
      simp [h1, hz1, hcb]
      exact ⟨c ++ ⟨#[0]⟩, ⟨hm.trans hc1, by omega⟩, by omega, Env.le_of (by simp), Mem.le_of rfl (by simp)⟩
    · simp at h1
      have h8 : c.size % 8 = 0 := by
        have := eqI_t.1 h1
        rw [Int.tmod_eq_emod_of_nonneg (by omega)] at this; omega
      rw [padF_same h8] at hc1
      rw [← hc1] at c9006
      simp only [putR, ← hc1] at hall hk2
      have hwa : IntKind.i64.wrap (base + c.size) = base + c.size := wrap64 (by omega) (by omega)
      have b1 : (s.starts.length + 1) * 8 ≤ 140737488355328 ∧ s.starts.length + 1 ≤ 9223372036854775807 := ⟨by omega, by omega⟩
      have b2 : (s.names.length + 1) * 24 ≤ 140737488355328 ∧ s.names.length + 1 ≤ 9223372036854775807 := ⟨by omega, by omega⟩
      have b3 : c.size + o.code.size ≤ 9223372036854775807 := by omega
      simp [h1, h, idxM, ho, Deck.av, hwa, appendA, b1, b2, b3, List.range_succ]
      refine xcall_p (call130 o hfit.small) (by simp [Deck.av]) ?_
      simp
      have d5 := defsF_fit hfit
      have dd : ∀ k, k < (defsF o).length → IntKind.i64.wrap (base + c.size + (ix (defsF o) k).at_) = base + c.size + (ix (defsF o) k).at_ := fun k hk => by
        have := d5 _ (ix_mem hk)
        exact wrap64 (by omega) (by omega)
      generalize hat : base + (c.size : Int) = at_ at *
      refine wpS_loopS (ι := (Nat × List DDef) × Nat) (fun u => [(0, .list p 5 (l.map Deck.av)), (1, .int .i64 base), (2, .list r 2 (root.map DDef.av)), (6, .ptr 0 0 0), (7, .ptr 1 1 0), (8, .row 2 (nx + 1) 1 0 (s.starts ++ [at_]).length), (9, .int .i64 i), (10, .int .i64 at_), (11, .list true 2 ((defsF o).map DDef.av)), (12, .int .i64 u.1.1)])
        (fun u => M38 base (c ++ o.code) u.1.2 s.lines (s.names ++ [⟨o.name, at_⟩]) (s.starts ++ [at_]) (nx + 1) (nx + 1 + 1 + 1) gl u.2) (fun u => (defsF o).length - u.1.1)
        (fun u => u.1.1 ≤ (defsF o).length ∧ addDefs at_ (defsF o) s.defs = addDefs at_ ((defsF o).drop u.1.1) u.1.2 ∧ u.1.2.length ≤ s.defs.length + u.1.1) ((0, s.defs), nx + 1 + 1 + 1 + 1) ⟨Nat.zero_le _, rfl, by simp⟩ (Sim.of_le (Env.le_of (by simp)) (Mem.le_of rfl (by simp [M38, DDef.av]))) ?_
      intro ⟨⟨k, df⟩, ny⟩ ⟨hk, hdf, hdl⟩
      simp only at hk hdf hdl
      have hwk : IntKind.i64.wrap (k + 1) = k + 1 := wrap64 (by omega) (by omega)
      simp [M38]
      refine br_cond rfl (fun h2 => ?_) (fun h2 => ?_)
      · have hlk : k < (defsF o).length := by have := ltI_t.1 h2; omega
        have hwd := dd k hlk
        rw [drop_ix hlk] at hdf
        replace hdf : addDefs at_ (defsF o) s.defs = addDefs at_ ((defsF o).drop (k + 1)) (definedF df ⟨(ix (defsF o) k).name, at_ + (ix (defsF o) k).at_⟩) := hdf
        generalize hd : ix (defsF o) k = d at *
        have hdl2 := definedF_len df ⟨d.name, at_ + d.at_⟩
        simp [h2, idxM, hd, DDef.av, hwd]
        refine xdcall_p rfl (call105 df ⟨d.name, at_ + d.at_⟩ (by omega)) (by simp [DDef.av]) ?_
        simp [hwk]
        exact ⟨k + 1, definedF df ⟨d.name, at_ + d.at_⟩, ⟨by omega, hdf, by omega⟩, by omega, ny, Sim.of_le (Env.le_of (by simp)) (Mem.le_of rfl (by simp [DDef.av]))⟩
      · have hkl : k = (defsF o).length := by have := ltI_f.1 h2; omega
        rw [hkl, List.drop_length] at hdf
        have hdf : addDefs at_ (defsF o) s.defs = df := hdf
        rw [hdf] at hall hk2
        have hfl := hfit.lines
        simp [h2, h, idxM, ho, Deck.av]
        refine wpS_loopS (ι := (Nat × List DLine) × (Nat × Nat)) (fun u => [(0, .list p 5 (l.map Deck.av)), (1, .int .i64 base), (2, .list r 2 (root.map DDef.av)), (6, .ptr 0 0 0), (7, .ptr 1 1 0), (8, .row 2 (nx + 1) 1 0 (s.starts ++ [at_]).length), (9, .int .i64 i), (10, .int .i64 at_), (13, .int .i64 u.1.1)])
          (fun u => M38 base (c ++ o.code) df u.1.2 (s.names ++ [⟨o.name, at_⟩]) (s.starts ++ [at_]) (nx + 1) (nx + 1 + 1 + 1) u.2.1 u.2.2) (fun u => o.lines.length - u.1.1)
          (fun u => u.1.1 ≤ o.lines.length ∧ u.1.2 = s.lines ++ (o.lines.take u.1.1).map (fun x => ⟨at_ + x.at_, x.stmt⟩)) ((0, s.lines), (gl, ny)) ⟨Nat.zero_le _, by simp⟩ (Sim.of_le (Env.le_of (by simp)) (Mem.le_of rfl (by simp [M38, DDef.av]))) ?_
        intro ⟨⟨k2, ls⟩, ⟨gl2, nz⟩⟩ ⟨hk3, hls⟩
        simp only at hk3 hls
        have hwk2 : IntKind.i64.wrap (k2 + 1) = k2 + 1 := wrap64 (by omega) (by omega)
        have hlen : ls.length = s.lines.length + k2 := by rw [hls]; simp; omega
        have b4 : (ls.length + 1) * 16 ≤ 140737488355328 ∧ ls.length + 1 ≤ 9223372036854775807 := ⟨by omega, by omega⟩
        simp [M38, h, idxM, ho, Deck.av]
        refine br_cond rfl (fun h3 => ?_) (fun h3 => ?_)
        · have hlk : k2 < o.lines.length := by have := ltI_t.1 h3; omega
          have hx := hfl _ (ix_mem hlk)
          have hwx : IntKind.i64.wrap (at_ + (ix o.lines k2).at_) = at_ + (ix o.lines k2).at_ := wrap64 (by omega) (by omega)
          have htk : o.lines.take (k2 + 1) = o.lines.take k2 ++ [ix o.lines k2] := by rw [List.take_add_one, idx h3]; rfl
          simp [h3, h, idxM, ho, Deck.av, DLine.av, hwx, hwk2, appendA, b4, List.range_succ]
          exact ⟨k2 + 1, ls ++ [⟨at_ + (ix o.lines k2).at_, (ix o.lines k2).stmt⟩], ⟨by omega, by rw [← List.map_take, htk, hls, List.map_append, List.append_assoc]; rfl⟩, by omega, nz + 1, nz + 1 + 1, Sim.of_le (Env.le_of (by simp)) (Mem.le_of rfl (by simp [DLine.av]))⟩
        · have hkl2 : k2 = o.lines.length := by have := ltI_f.1 h3; omega
          rw [hkl2, List.take_length] at hls
          rw [← hls] at hall hk2
          simp [h3, hw]
          replace hall : F = putAllR base (⟨s.starts ++ [at_], c ++ o.code, df, ls, s.names ++ [(⟨o.name, at_⟩ : DDef)]⟩ : RSt) (l.drop (i + 1)) := hall
          exact ⟨i + 1, (⟨s.starts ++ [at_], c ++ o.code, df, ls, s.names ++ [(⟨o.name, at_⟩ : DDef)]⟩ : RSt), ⟨by omega, hall, hk2⟩, by omega, nx + 1, nx + 1 + 1 + 1, gl2, nz, Sim.of_le (Env.le_of (by simp)) (Mem.le_of rfl (by simp [DDef.av]))⟩
  · have hil : i = l.length := by have := ltI_f.1 h; omega
    rw [hil, List.drop_length] at hall
    replace hall : s = F := hall.symm
    rw [hil] at hok
    rw [hall] at hok
    have hC : imgR base root l = ⟨base, patchAllR root F.defs base (l.zip F.starts) F.code, F.defs, F.lines, F.names⟩ := by rw [hF]; rfl
    obtain ⟨C, hCC⟩ : ∃ C, C = patchAllR root F.defs base (l.zip F.starts) F.code := ⟨_, rfl⟩
    rw [← hCC] at hC
    rw [hall]
    clear hall hF
    obtain ⟨hs1, hs2, hs3, hs4, hs5, hs6⟩ := hok
    obtain ⟨st, cd, df, ls, nm⟩ := F
    simp only at hs1 hs2 hs3 hs4 hs5 hs6 hCC hC
    simp [h]
    have hzl : (l.zip st).length = l.length := by rw [List.length_zip, hs1, Nat.min_self]
    refine wpS_loopS (ι := (Nat × ByteArray) × Nat) (fun u => [(0, .list p 5 (l.map Deck.av)), (1, .int .i64 base), (2, .list r 2 (root.map DDef.av)), (6, .ptr 0 0 0), (7, .ptr 1 1 0), (8, .row 2 gs 1 0 st.length), (14, .int .i64 u.1.1)])
      (fun u => M38 base u.1.2 df ls nm st gs gn gl u.2) (fun u => l.length - u.1.1)
      (fun u => u.1.1 ≤ l.length ∧ C = patchAllR root df base ((l.zip st).drop u.1.1) u.1.2 ∧ u.1.2.size = cd.size) ((0, cd), nx) ⟨Nat.zero_le _, hCC, rfl⟩ (Sim.of_le (Env.le_of (by simp)) (Mem.le_of rfl (by simp [M38]))) ?_
    intro ⟨⟨i2, c⟩, ny⟩ ⟨hi2, hpa, hcs⟩
    simp only at hi2 hpa hcs
    have hw2 : IntKind.i64.wrap (i2 + 1) = i2 + 1 := wrap64 (by omega) (by omega)
    simp [M38]
    refine br_cond rfl (fun h1 => ?_) (fun h1 => ?_)
    · have hlt : i2 < l.length := by have := ltI_t.1 h1; omega
      have h1' : ltI ↑i2 ↑st.length = true := by rw [hs1]; exact h1
      have hfit := hf _ (ix_mem hlt)
      have hrf := hr _ (ix_mem hlt)
      have hpos := hs6 i2 hlt
      have c1 := hfit.code
      have c2 := hfit.small.refs
      have hix : ix (l.zip st) i2 = (ix l i2, ix st i2) := by
        have h2 : i2 < st.length := by omega
        have hz : (l.zip st)[i2]? = some (l[i2], st[i2]) := by rw [List.getElem?_eq_getElem (by omega)]; simp
        simp [ix, List.getD, hz, hlt, h2]
      rw [drop_ix (by omega), hix, patchAllR] at hpa
      generalize ho : ix l i2 = o at *
      generalize ha : ix st i2 = a at *
      obtain ⟨c0, hc0⟩ : ∃ c0, c0 = patchR root df (a - base) o.refs c := ⟨_, rfl⟩
      rw [← hc0] at hpa
      simp [h1]
      refine wpS_loopS (ι := (Nat × ByteArray) × Nat) (fun u => [(0, .list p 5 (l.map Deck.av)), (1, .int .i64 base), (2, .list r 2 (root.map DDef.av)), (6, .ptr 0 0 0), (7, .ptr 1 1 0), (8, .row 2 gs 1 0 st.length), (14, .int .i64 i2), (15, .int .i64 u.1.1)])
        (fun u => M38 base u.1.2 df ls nm st gs gn gl u.2) (fun u => o.refs.length - u.1.1)
        (fun u => u.1.1 ≤ o.refs.length ∧ c0 = patchR root df (a - base) (o.refs.drop u.1.1) u.1.2 ∧ u.1.2.size = cd.size) ((0, c), ny) ⟨Nat.zero_le _, hc0, hcs⟩ (Sim.of_le (Env.le_of (by simp)) (Mem.le_of rfl (by simp [M38]))) ?_
      intro ⟨⟨k, c⟩, nz⟩ ⟨hk, hpr, hcs⟩
      simp only at hk hpr hcs
      have hwk : IntKind.i64.wrap (k + 1) = k + 1 := wrap64 (by omega) (by omega)
      simp [M38, h1, idxM, ho, Deck.av]
      refine br_cond rfl (fun h2 => ?_) (fun h2 => ?_)
      · have hlk : k < o.refs.length := by have := ltI_t.1 h2; omega
        have hx := hrf _ (ix_mem hlk)
        rw [drop_ix hlk, patchR] at hpr
        generalize hd : ix o.refs k = d at *
        have hw3 : IntKind.i64.wrap (a - base) = a - base := wrap64 (by omega) (by omega)
        have hw4 : IntKind.i64.wrap (a - base + d.at_) = a - base + d.at_ := wrap64 (by omega) (by omega)
        have hw5 : IntKind.i64.wrap (a - base + d.at_ + 4) = a - base + d.at_ + 4 := wrap64 (by omega) (by omega)
        generalize hP : a - base + d.at_ = P at *
        obtain ⟨X, hX⟩ : ∃ X, X = c.extract 0 P.toNat := ⟨_, rfl⟩
        obtain ⟨Y, hY⟩ : ∃ Y, Y = c.extract (P.toNat + 4) c.size := ⟨_, rfl⟩
        obtain ⟨Z, hZ⟩ : ∃ Z, Z = fourF (findR root df d.name + d.plus) := ⟨_, rfl⟩
        have hXs : X.size = P.toNat := by rw [hX]; simp; omega
        have hYs : Y.size = c.size - (P.toNat + 4) := by rw [hY]; simp
        have hZs : Z.size = 4 := by rw [hZ]; rfl
        have hns : (X ++ Z ++ Y).size = cd.size := by rw [ByteArray.size_append, ByteArray.size_append]; omega
        have hxz : X.size + Z.size ≤ 9223372036854775807 := by omega
        have hxzy : X.size + Z.size + Y.size ≤ 9223372036854775807 := by omega
        have hsl1 : sliceA false true 0 [.str c, .int .i64 P] = some (.str X) := by
          simp [sliceA, boundsA, hX]; omega
        have hsl2 : sliceA true false 0 [.str c, .int .i64 (P + 4)] = some (.str Y) := by
          have : (P + 4).toNat = P.toNat + 4 := by omega
          simp [sliceA, boundsA, hY, this]; omega
        have h69 : ∀ v, v = findR root df d.name → PCalls Zk.pg 131 [.int .i64 (IntKind.i64.wrap (v + d.plus))] fun out => out = .ret (.str Z) := by
          intro v hv
          rw [hv, hZ, ← fourF_wrap]
          exact call131 _
        replace hpr : c0 = patchR root df (a - base) (o.refs.drop (k + 1)) (X ++ Z ++ Y) := by rw [hpr, hX, hY, hZ, setFour]
        simp [h2, h1, idxM, ho, hd, Deck.av, DRef.av]
        refine xcall_p (call127 r root d.name hrl) (by simp) ?_
        cases hz : outerF root d.name with
        | some v =>
          have h69v := h69 v (by simp [findR, hz])
          simp [h1', idxM, ha, hw3, hw4, hw5, hP, hsl1]
          refine xdcall_p rfl h69v (by simp) ?_
          simp [hw5, hsl2, hxz, hxzy, hwk]
          exact ⟨k + 1, X ++ Z ++ Y, ⟨by omega, hpr, hns⟩, by omega, nz + 1, Sim.of_le (Env.le_of (by simp)) (Mem.le_of rfl (by simp))⟩
        | none =>
          have h69v := h69 ((outerF df d.name).getD 0) (by simp [findR, hz])
          simp
          refine xcall_p (call127 true df d.name (by omega)) (by simp) ?_
          simp [h1', idxM, ha, hw3, hw4, hw5, hP, hsl1]
          refine xdcall_p rfl h69v (by simp) ?_
          simp [hw5, hsl2, hxz, hxzy, hwk]
          exact ⟨k + 1, X ++ Z ++ Y, ⟨by omega, hpr, hns⟩, by omega, nz + 1, Sim.of_le (Env.le_of (by simp)) (Mem.le_of rfl (by simp))⟩
      · have hkl : k = o.refs.length := by have := ltI_f.1 h2; omega
        rw [hkl, List.drop_length] at hpr
        replace hpr : c = c0 := hpr.symm
        rw [← hpr] at hpa
        simp [h2, hw2]
        exact ⟨i2 + 1, c, ⟨by omega, hpa, hcs⟩, by omega, nz, Sim.of_le (Env.le_of (by simp)) (Mem.le_of rfl (by simp))⟩
    · have hil2 : i2 = l.length := by have := ltI_f.1 h1; omega
      rw [hil2, ← hzl, List.drop_length] at hpa
      replace hpa : C = c := hpa
      simp [h1, cr98, hC, Img.av, hpa]
end Go.Pm

/- ZkC28: contracts: R34's Image says yes to an image that is well formed. -/
namespace Go.Pm
open Go Go.Proofs
attribute [-simp] List.getElem?_map

structure Img.Fine (x : Img) : Prop where
  base : baseF x.base = true
  end_ : x.base + x.code.size ≤ 65536
  dlen : x.defs.length ≤ 4000000000000
  llen : x.lines.length ≤ 4000000000000
  nlen : x.names.length ≤ 4000000000000
  dname : ∀ i, i < x.defs.length → (ix x.defs i).name.size ≤ 1048576 ∧ nameOk (ix x.defs i).name = true ∧ withinF (ix x.defs i).at_ x.base (x.base + x.code.size) = true
  dless : ∀ i, i + 1 < x.defs.length → ltS (ix x.defs i).name (ix x.defs (i + 1)).name = true
  nname : ∀ i, i < x.names.length → (ix x.names i).name.size ≤ 1048576 ∧ nameOk (ix x.names i).name = true ∧ withinF (ix x.names i).at_ x.base (x.base + x.code.size) = true ∧ eqI ((ix x.names i).at_.tmod 8) 0 = true
  nless : ∀ i, i + 1 < x.names.length → ltI (ix x.names (i + 1)).at_ (ix x.names i).at_ = false
  line : ∀ i, i < x.lines.length → withinF (ix x.lines i).at_ x.base (x.base + x.code.size) = true
  lless : ∀ i, i + 1 < x.lines.length → leI (ix x.lines (i + 1)).at_ (ix x.lines i).at_ = false

set_option maxHeartbeats 4000000 in
theorem call40 (x : Img) (hx : x.Fine) : PCalls Zk.pg 40 [.agg x.av] fun out => out = .ret (.bool true) := by
  refine ok40.pcalls (by simp) ?_
  have hb := hx.base
  have he := hx.end_
  have hl1 := hx.dlen
  have hl2 := hx.llen
  have hl3 := hx.nlen
  have hb0 : 0 ≤ x.base ∧ x.base ≤ 65528 := by
    have hb2 := hb
    unfold baseF at hb2
    rw [Bool.and_eq_true] at hb2
    exact withinF_t hb2.1
  have hwe : IntKind.i64.wrap (x.base + x.code.size) = x.base + x.code.size := wrap64 (by omega) (by omega)
  have hgt : ltI 65536 (x.base + x.code.size) = false := ltI_f.2 he
  have h00 : ltI 0 0 = false := rfl
  have hw1 : IntKind.i64.wrap 1 = 1 := wrap64 (by omega) (by omega)
  simp [c40, Img.av, hwe]
  refine xcall_p (call89 x.base) rfl ?_
  simp [hb, hgt]
  generalize hE : x.base + (x.code.size : Int) = E at *
  refine wpS_loopS (ι := Nat) (fun i => [(1, .ptr 0 0 0), (3, .int .i64 E), (4, .int .i64 i)]) (fun _ => ⟨[(0, .cells x.av)], 1⟩) (fun i => x.defs.length - i) (fun i => i ≤ x.defs.length) 0 (Nat.zero_le _) (Sim.of_le (Env.le_of (by simp)) (Mem.le_of rfl (by simp [Img.av]))) ?_
  intro i hi
  have hw : IntKind.i64.wrap (i + 1) = i + 1 := wrap64 (by omega) (by omega)
  simp [Img.av]
  refine br_cond rfl (fun h => ?_) (fun h => ?_)
  · have hlt : i < x.defs.length := by have := ltI_t.1 h; omega
    obtain ⟨hd1, hd2, hd3⟩ := hx.dname i hlt
    simp [h, idxM, DDef.av]
    refine xdcall_p rfl (call85 _ hd1) rfl ?_
    simp [hd2, h, idxM, DDef.av]
    refine xdcall_p rfl (call86 (ix x.defs i).at_ x.base E) rfl ?_
    rw [hE] at hd3
    rcases Nat.eq_zero_or_pos i with hi0 | hi0
    · subst hi0
      simp [hd3, h00, hw1]
      exact ⟨1, by omega, by omega, Sim.of_le (Env.le_of (by simp)) (Mem.le_of rfl (by simp))⟩
    · have h0 : ltI 0 ↑i = true := ltI_t.2 (by omega)
      have hwm : IntKind.i64.wrap (i - 1) = ((i - 1 : Nat) : Int) := by rw [wrap64 (by omega) (by omega)]; omega
      have hj : ltI ↑(i - 1) ↑x.defs.length = true := ltN (by omega)
      have hls := hx.dless (i - 1) (by omega)
      rw [Nat.sub_add_cancel hi0] at hls
      simp [hd3, h0, hwm, hj, idxM, DDef.av, h, hls]
      simp [hw]
      exact ⟨i + 1, by omega, by omega, Sim.of_le (Env.le_of (by simp)) (Mem.le_of rfl (by simp))⟩
  simp [h]
  clear h
  refine wpS_loopS (ι := Nat) (fun i => [(1, .ptr 0 0 0), (3, .int .i64 E), (5, .int .i64 i)]) (fun _ => ⟨[(0, .cells x.av)], 1⟩) (fun i => x.names.length - i) (fun i => i ≤ x.names.length) 0 (Nat.zero_le _) (Sim.of_le (Env.le_of (by simp)) (Mem.le_of rfl (by simp [Img.av]))) ?_
  intro i hi
  have hw : IntKind.i64.wrap (i + 1) = i + 1 := wrap64 (by omega) (by omega)
  simp [Img.av]
  refine br_cond rfl (fun h => ?_) (fun h => ?_)
  · have hlt : i < x.names.length := by have := ltI_t.1 h; omega
    obtain ⟨hd1, hd2, hd3, hd4⟩ := hx.nname i hlt
    simp [h, idxM, DDef.av]
    refine xdcall_p rfl (call85 _ hd1) rfl ?_
    simp [hd2, h, idxM, DDef.av]
    refine xdcall_p rfl (call86 (ix x.names i).at_ x.base E) rfl ?_
    rw [hE] at hd3
    rcases Nat.eq_zero_or_pos i with hi0 | hi0
    · subst hi0
      have hz0 : (x.names.map DDef.av)[0]? = some (ix x.names 0).av := idxM h
      simp [hd3, hd4, h00, hw1, hz0, DDef.av]
      exact ⟨1, by omega, by omega, Sim.of_le (Env.le_of (by simp)) (Mem.le_of rfl (by simp))⟩
    · have h0 : ltI 0 ↑i = true := ltI_t.2 (by omega)
      have hwm : IntKind.i64.wrap (i - 1) = ((i - 1 : Nat) : Int) := by rw [wrap64 (by omega) (by omega)]; omega
      have hj : ltI ↑(i - 1) ↑x.names.length = true := ltN (by omega)
      have hls := hx.nless (i - 1) (by omega)
      rw [Nat.sub_add_cancel hi0] at hls
      simp [hd3, hd4, h0, hwm, hj, idxM, DDef.av, h, hls]
      simp [hw]
      exact ⟨i + 1, by omega, by omega, Sim.of_le (Env.le_of (by simp)) (Mem.le_of rfl (by simp))⟩
  simp [h]
  clear h
  refine wpS_loopS (ι := Nat) (fun i => [(1, .ptr 0 0 0), (3, .int .i64 E), (6, .int .i64 i)]) (fun _ => ⟨[(0, .cells x.av)], 1⟩) (fun i => x.lines.length - i) (fun i => i ≤ x.lines.length) 0 (Nat.zero_le _) (Sim.of_le (Env.le_of (by simp)) (Mem.le_of rfl (by simp [Img.av]))) ?_
  intro i hi
  have hw : IntKind.i64.wrap (i + 1) = i + 1 := wrap64 (by omega) (by omega)
  simp [Img.av]
  refine br_cond rfl (fun h => ?_) (fun h => ?_)
  · have hlt : i < x.lines.length := by have := ltI_t.1 h; omega
    have hd3 := hx.line i hlt
    simp [h, idxM, DLine.av]
    refine xdcall_p rfl (call86 (ix x.lines i).at_ x.base E) rfl ?_
    rw [hE] at hd3
    rcases Nat.eq_zero_or_pos i with hi0 | hi0
    · subst hi0
      have hz0 : (x.lines.map DLine.av)[0]? = some (ix x.lines 0).av := idxM h
      simp [hd3, h00, hw1, hz0, DLine.av]
      exact ⟨1, by omega, by omega, Sim.of_le (Env.le_of (by simp)) (Mem.le_of rfl (by simp))⟩
    · have h0 : ltI 0 ↑i = true := ltI_t.2 (by omega)
      have hwm : IntKind.i64.wrap (i - 1) = ((i - 1 : Nat) : Int) := by rw [wrap64 (by omega) (by omega)]; omega
      have hj : ltI ↑(i - 1) ↑x.lines.length = true := ltN (by omega)
      have hls := hx.lless (i - 1) (by omega)
      rw [Nat.sub_add_cancel hi0] at hls
      simp [hd3, h0, hwm, hj, idxM, DLine.av, h, hls]
      simp [hw]
      exact ⟨i + 1, by omega, by omega, Sim.of_le (Env.le_of (by simp)) (Mem.le_of rfl (by simp))⟩
  simp [h, cr40]
end Go.Pm

/- ZkC22: contracts: the linker's Link. -/
namespace Go.Pm
open Go Go.Proofs
attribute [-simp] List.getElem?_map

def img0 : List AV := [.int .i64 0, .str ⟨#[]⟩, .nilS, .nilS, .nilS]

theorem DCalls.of_le {P : Prg} {f : FuncId} {xs : List AV} {pan : Option AV} {m1 m : Mem} {R : Mem → Prop} (hle : Mem.le m1 m) (h : DCalls P f xs pan m1 R) : DCalls P f xs pan m R := by
  refine ⟨h.1, fun β K σ w vals u hrel hv hu hβ => h.2 β K σ w vals u ?_ hv hu hβ⟩
  obtain ⟨h1, n, h2⟩ := hle
  have : m1 = ⟨m.store.take n, m.next⟩ := by cases m1; simp only at h1 h2; rw [h1, h2]
  rw [this]
  exact hrel.forget n

/-- The deferred function, where nothing panics. -/
theorem call69r (m : Mem) (a b c : AV) : DCalls Zk.pg 69 [a, b, c] none m fun m' => m' = m := by
  refine ok69.dcalls (by simp) ?_
  simp [c69]

/-- The results' variables. -/
def boxes (i : List AV) (e : Int) (n : ByteArray) : List (Nat × AObj) := [(0, .cells i), (1, .cells [.int .i64 e]), (2, .cells [.str n])]

theorem call69p (nx : Nat) (c : Int) (n : ByteArray) : DCalls Zk.pg 69 [.ptr 0 0 0, .ptr 1 1 0, .ptr 2 2 0] (some (.iface 138 (.agg [.int .i64 c, .str n]))) ⟨boxes img0 0 ⟨#[]⟩, nx⟩ fun m => ∃ post nx', m = ⟨boxes img0 c n ++ post, nx'⟩ := by
  refine ok69.dcalls (by simp) ?_
  simp [c69, boxes, img0]

/-- What Link computes: the image, an error's number, a name. -/
inductive LRes where
  | bad (e : Int) (n : ByteArray)
  | good (i : Img)
def LRes.av : LRes → AV
  | .bad e n => .tuple [.agg img0, .int .i64 e, .str n]
  | .good i => .tuple [.agg i.av, .int .i64 0, .str ⟨#[]⟩]
def imgOf (s : LSt) (base : Int) : Img := ⟨base, ⟨(imageCode s base).toArray⟩, sortD s.defs, s.lines, s.places⟩
def linkL (l : List Deck) (libs : List (List Deck)) (base : Int) : LRes :=
  if allF l libs = false then .bad 1 ⟨#[]⟩ else if baseF base = false then .bad 7 ⟨#[]⟩ else
  match putAll (.start base) l with
  | .error n => .bad 6 n
  | .ok s => match neededL libs (libs.flatten.length + 1) s with
    | (_, n :: _) => .bad 5 n
    | (s', []) => if 65536 < s'.end_ then .bad 11 ⟨#[]⟩ else .good (imgOf s' base)

theorem pan9 {e : Env} {m : Mem} {k : Nat} {c : Int} {n : ByteArray} {L : LRes} (hL : L = .bad c n) (hle : Mem.le ⟨boxes img0 0 ⟨#[]⟩, k⟩ m) (h6 : e.get 6 = .ptr 0 0 0) (h7 : e.get 7 = .ptr 1 1 0) (h8 : e.get 8 = .ptr 2 2 0) :
    postF Zk.pg cr21 (fun out m => permOD 1 m out = some (.ret L.av)) 69 [.ptr 0 0 0, .ptr 1 1 0, .ptr 2 2 0] (.panic (.iface 138 (.agg [.int .i64 c, .str n]))) e m := by
  rw [postF_panic]
  refine ⟨_, DCalls.of_le hle (call69p k c n), ?_⟩
  rintro m' ⟨post, nx', rfl⟩
  subst hL
  simp [cr21, h6, h7, h8, boxes, img0, permOD, permD, mapO, LRes.av]

theorem putAll_drop {s : LSt} {l : List Deck} {i : Nat} (h : i < l.length) : putAll s (l.drop i) = match putL true s (ix l i) with
    | .error n => .error n
    | .ok s' => putAll s' (l.drop (i + 1)) := by
  rw [drop_ix h]
  cases hp : putL true s (ix l i) <;> simp only [putAll, hp]

set_option maxHeartbeats 4000000 in
theorem call21 (p q : Bool) (l : List Deck) (libs : List (List Deck)) (base : Int) (hl : SmallL l) (hb : SmallLL libs) (hlib : libs.length ≤ 2000000) (hsum : l.length + libs.flatten.length ≤ 2000000) :
    PCalls Zk.pg 21 [.list p 5 (l.map Deck.av), .list q 1 (libs.map libAV), .int .i64 base] fun out => out = .ret (linkL l libs base).av := by
  refine pcalls_of_acalls 1 (ok21.acalls (by simp) ?_)
  generalize hL : linkL l libs base = L
  simp [cx21]
  refine xcall_p (call33 p q l libs hl hb hlib hsum) (by simp) ?_
  unfold linkL at hL
  cases hall : allF l libs with
  | false =>
    rw [hall, if_pos rfl] at hL
    subst hL
    simp [cr21, permOD, permD, mapO, LRes.av, img0]
  | true =>
    rw [hall, if_neg (by simp)] at hL
    simp
    refine xcall_p (call68 base) (by simp) ?_
    cases hbs : baseF base with
    | false =>
      rw [hbs, if_pos rfl] at hL
      subst hL
      simp [cr21, permOD, permD, mapO, LRes.av, img0]
    | true =>
      rw [hbs, if_neg (by simp)] at hL
      have hbase : 0 ≤ base ∧ base ≤ 65528 := by
        unfold baseF at hbs
        rw [Bool.and_eq_true] at hbs
        exact withinF_t hbs.1
      have hfl : ∀ o ∈ l, o.Fit ∧ RefsFit o := fun o ho => by
        refine deckOk_fit (hl.each o ho) ?_
        unfold allF at hall
        rw [Bool.and_eq_true, List.all_eq_true] at hall
        exact hall.1 o ho
      have hfb : ∀ o ∈ libs.flatten, o.Fit ∧ RefsFit o := fun o ho => by
        obtain ⟨x, hx, ho⟩ := List.mem_flatten.1 ho
        refine deckOk_fit ((hb.each x hx).each o ho) ?_
        unfold allF at hall
        rw [Bool.and_eq_true, List.all_eq_true, List.all_eq_true] at hall
        have := hall.2 x hx
        rw [List.all_eq_true] at this
        exact this o ho
      have hgood := LSt.good_start hbase.1 (by omega)
      simp [cy21]
      have c70 := call70 base (boxes img0 0 ⟨#[]⟩) 3
      refine xcall_a c70 ?_
      simp
      have hle : ∀ (post : List (Nat × AObj)) k, Mem.le ⟨boxes img0 0 ⟨#[]⟩, k⟩ ⟨boxes img0 0 ⟨#[]⟩ ++ post, k⟩ := fun post k => le_pre _ _ _
      refine wpS_loopS (ι := (Nat × LSt) × (LG × Nat)) (fun u => [(1, .list q 1 (libs.map libAV)), (6, .ptr 0 0 0), (7, .ptr 1 1 0), (8, .ptr 2 2 0), (9, .ptr 5 5 0), (27, .list p 5 (l.map Deck.av)), (28, .int .i64 l.length), (29, .int .i64 u.1.1)])
        (fun u => ⟨boxes img0 0 ⟨#[]⟩ ++ lkObjs 3 base u.2.1 u.1.2, u.2.2⟩) (fun u => l.length - u.1.1)
        (fun u => u.1.1 ≤ l.length ∧ putAll (.start base) l = putAll u.1.2 (l.drop u.1.1) ∧ u.1.2.Good base ∧ u.1.2.objs.length = u.1.1 ∧ u.2.1.a = 3) ((0, .start base), (⟨3, 6, 7, 8, 9⟩, 10)) ⟨Nat.zero_le _, rfl, hgood, rfl, rfl⟩
        (Sim.of_le (Env.le_of (by simp [boxes])) (Mem.le_of rfl (by simp [boxes]))) ?_
      intro ⟨⟨i, s⟩, ⟨G, nx⟩⟩ ⟨hi, hput, hg, hol, hGa⟩
      simp only at hi hput hg hol hGa
      have hw : IntKind.i64.wrap (i + 1) = i + 1 := wrap64 (by have := hl.len; omega) (by have := hl.len; omega)
      simp
      refine br_cond rfl (fun h => ?_) (fun h => ?_)
      · have hlt : i < l.length := by have := ltI_t.1 h; omega
        rw [putAll_drop hlt] at hput
        have hf := hfl _ (ix_mem hlt)
        generalize hoi : ix l i = o at *
        have hob : (boxes img0 0 ⟨#[]⟩ ++ (lkObjs 3 base G s ++ [(nx, AObj.cells o.av)]))[10]? = some (nx, .cells o.av) := rfl
        simp [h, idxM, hoi, Deck.av]
        have c71 := call71 (boxes img0 0 ⟨#[]⟩) base G s o true (nx + 1) hg.small hf.1
        rw [hGa] at c71
        refine xcall_q (R := put27 (boxes img0 0 ⟨#[]⟩) base G true s o) (ACalls.of_le (m1 := ⟨boxes img0 0 ⟨#[]⟩ ++ lkObjs 3 base G s, nx + 1⟩) (Mem.le_of rfl (by simp [boxes, lkObjs])) (by exact c71)) ?_ ?_
        · intro v m' hp
          unfold put27 at hp
          cases hpu : putL true s o with
          | error n => rw [hpu] at hp; obtain ⟨hp, _⟩ := hp; cases hp
          | ok s' =>
            rw [hpu] at hp hput
            obtain ⟨_, o', n', d', l', nx', rfl⟩ := hp
            obtain ⟨e1, _⟩ := putL_same hpu
            have hll := hl.len
            simp [hw]
            exact ⟨i + 1, s', ⟨G.a, o', n', d', l'⟩, ⟨by omega, hput, putL_good hg hf.1 hf.2 (by omega) hpu, by rw [e1]; simp [hol], hGa⟩, by omega, nx', Sim.of_le (Env.le_of (by simp)) (Mem.le_of rfl (by simp [boxes, lkObjs]))⟩
        · intro v m' hp
          unfold put27 at hp
          cases hpu : putL true s o with
          | ok s' => rw [hpu] at hp; obtain ⟨hp, _⟩ := hp; cases hp
          | error n =>
            rw [hpu] at hp hput
            simp only at hput
            rw [hput] at hL
            obtain ⟨hp, nx', rfl⟩ := hp
            injection hp with hp; subst hp
            unfold wrongV
            simp
            exact pan9 hL.symm (Mem.le_refl _) (by rfl) (by rfl) (by rfl)
      · have hil : i = l.length := by have := ltI_f.1 h; omega
        rw [hil, List.drop_length, putAll] at hput
        rw [hput] at hL
        simp only at hL
        have haw : awayL libs s.own ≤ libs.flatten.length := List.length_filter_le _ _
        have c72 := call72 (boxes img0 0 ⟨#[]⟩) base G s nx q libs hb (fun o ho => (hfb o ho).1) hg.small (by omega)
        have hng := needed_good hfb (libs.flatten.length + 1) s hg (by omega)
        rw [hGa] at c72
        generalize hN : neededL libs (libs.flatten.length + 1) s = N at *
        obtain ⟨s', ms⟩ := N
        simp only at hL c72 hng
        simp [h]
        refine xcall_q c72 ?_ (by rintro v m' ⟨_, _, _, _, _, _, _, h, _⟩; cases h)
        rintro v m' ⟨o', n', d', l', g, nx', _, hv, rfl⟩
        injection hv with hv; subst hv
        cases ms with
        | cons n ms =>
          simp only at hL
          have hgt : ltI 0 (ms.length + 1) = true := ltI_t.2 (by omega)
          simp [hgt, lkObjs, boxes, textsR]
          exact ⟨_, _, ⟨rfl, rfl⟩, pan9 hL.symm (Mem.le_of (m' := ⟨boxes img0 0 ⟨#[]⟩, nx'⟩) rfl (by simp [boxes])) (by rfl) (by rfl) (by rfl)⟩
        | nil =>
          simp only at hL
          have hgt : ltI 0 0 = false := ltI_f.2 (by omega)
          simp [hgt, lkObjs, lkCells, boxes]
          cases h65 : ltI 65536 s'.end_ with
          | true =>
            rw [if_pos (ltI_t.1 h65)] at hL
            simp
            exact ⟨_, _, ⟨rfl, rfl⟩, pan9 hL.symm (Mem.le_of (m' := ⟨boxes img0 0 ⟨#[]⟩, nx'⟩) rfl (by simp [boxes])) (by rfl) (by rfl) (by rfl)⟩
          | false =>
            have := ltI_f.1 h65
            rw [if_neg (by omega)] at hL
            have c73 := call73 (boxes img0 0 ⟨#[]⟩) base ⟨3, o', n', d', l'⟩ s' nx' hng.placed
            simp
            refine xcall_q (ACalls.of_le (m1 := ⟨boxes img0 0 ⟨#[]⟩ ++ lkObjs 3 base ⟨3, o', n', d', l'⟩ s', nx'⟩) (Mem.le_of rfl (by simp [boxes, lkObjs, lkCells])) (by exact c73)) ?_ (by rintro v m' ⟨h, _⟩; cases h)
            rintro v m' ⟨hv, ny, rfl⟩
            injection hv with hv; subst hv
            subst hL
            simp [boxes, lkDone, postF_ret]
            refine ⟨_, call69r _ _ _ _, ?_⟩
            rintro m' rfl
            have hsl := sortD_len hng.distinct
            have htk : (List.map DDef.av (sortD s'.defs)).take s'.defs.length = List.map DDef.av (sortD s'.defs) := List.take_of_length_le (by simp [hsl])
            simp [cr21, permOD, permD, mapO, LRes.av, Img.av, imgOf, hsl, htk]
end Go.Pm

/- ZkC33: contracts: large answers something; awake. -/
namespace Go.Pm
open Go Go.Proofs
attribute [-simp] List.getElem?_map List.length_flatten

set_option maxHeartbeats 4000000 in
theorem call10 (l : List Deck) (libs : List (List Deck)) (hl : SmallL l) (hb : SmallLL libs) : PCalls Zk.pg 10 [decksAV l, .list true 1 (libs.map libAV)] fun out => ∃ b, out = .ret (.bool b) := by
  refine ok10.pcalls (by simp [decksAV]) ?_
  have dl := hl.len
  have bl := hb.len
  have hc : (libs.length + 1) * 24 ≤ 140737488355328 ∧ libs.length + 1 ≤ 9223372036854775807 := ⟨by omega, by omega⟩
  have hc' : (1 + libs.length) * 24 ≤ 140737488355328 ∧ 1 + libs.length ≤ 9223372036854775807 := ⟨by omega, by omega⟩
  obtain ⟨L, hL⟩ : ∃ L, L = l :: libs := ⟨_, rfl⟩
  have hLl : L.length = libs.length + 1 := by rw [hL]; rfl
  have hsm : ∀ x ∈ L, SmallL x := by
    intro x hx
    rw [hL] at hx
    rcases List.mem_cons.1 hx with rfl | hx
    · exact hl
    · exact hb.each x hx
  simp [c10, decksAV, appendA, hc, hc', List.range_succ]
  refine br_cond rfl (fun h => ?_) (fun h => ?_)
  · simp [cr10]
  simp
  refine wpS_loopS (ι := (Nat × Int) × Nat) (fun u => [(5, .int .i64 u.1.2), (6, .row 0 1 1 0 L.length), (7, .int .i64 u.1.1)]) (fun u => ⟨[(1, .row 35 1 (L.map libAV))], u.2⟩) (fun u => L.length - u.1.1) (fun u => u.1.1 ≤ L.length) ((0, 0), 2) (Nat.zero_le _) ?_ ?_
  · exact Sim.of_le (Env.le_of (by simp [hLl, Nat.add_comm])) (Mem.le_of rfl (by simp [hL, libAV, decksAV]))
  intro ⟨⟨i, s⟩, nx⟩ hi
  simp only at hi
  have hw : IntKind.i64.wrap (i + 1) = i + 1 := wrap64 (by omega) (by omega)
  simp
  refine br_cond rfl (fun h1 => ?_) (fun h1 => ?_)
  · have hlt : i < L.length := by have := ltI_t.1 h1; omega
    have hx := hsm _ (ix_mem hlt)
    have hxl := hx.len
    generalize hxx : ix L i = x at *
    simp [h1]
    refine wpS_loopS (ι := (Nat × Int) × Nat) (fun u => [(5, .int .i64 u.1.2), (6, .row 0 1 1 0 L.length), (7, .int .i64 i), (8, .int .i64 u.1.1)]) (fun u => ⟨[(1, .row 35 1 (L.map libAV))], u.2⟩) (fun u => x.length - u.1.1) (fun u => u.1.1 ≤ x.length) ((0, s), nx) (Nat.zero_le _) (Sim.of_le (Env.le_of (by simp)) (Mem.le_of rfl (by simp))) ?_
    intro ⟨⟨j, s⟩, ny⟩ hj
    simp only at hj
    have hwj : IntKind.i64.wrap (j + 1) = j + 1 := wrap64 (by omega) (by omega)
    simp [h1, idxM, hxx, libAV, decksAV]

    refine br_cond rfl (fun h2 => ?_) (fun h2 => ?_)
    · have hlj : j < x.length := by have := ltI_t.1 h2; omega
      generalize hox : ix x j = o at *
      simp [h1, h2, idxM, hxx, hox, libAV, decksAV, Deck.av]
      refine br_cond rfl (fun h3 => ?_) (fun h3 => ?_)
      · simp [hwj]
        exact ⟨j + 1, by omega, by omega, IntKind.i64.wrap (IntKind.i64.wrap (s + IntKind.i64.wrap (IntKind.i64.wrap (20 + (o.name.size : Int)) + IntKind.i64.wrap (10 * IntKind.i64.wrap (IntKind.i64.wrap ((o.defs.length : Int) + (o.refs.length : Int)) + (o.lines.length : Int))))) + (o.code.size : Int)), ny + 1, Sim.of_le (Env.le_of (by simp)) (Mem.le_of rfl (by simp))⟩
      · simp [hwj]
        exact ⟨j + 1, by omega, by omega, IntKind.i64.wrap (s + IntKind.i64.wrap (IntKind.i64.wrap (20 + (o.name.size : Int)) + IntKind.i64.wrap (10 * IntKind.i64.wrap (IntKind.i64.wrap ((o.defs.length : Int) + (o.refs.length : Int)) + (o.lines.length : Int))))), ny + 1, Sim.of_le (Env.le_of (by simp)) (Mem.le_of rfl (by simp))⟩
    · simp [h2, hw]
      exact ⟨i + 1, by omega, by omega, s, ny, Sim.of_le (Env.le_of (by simp)) (Mem.le_of rfl (by simp))⟩
  · simp [h1, cr10]

theorem Wk.refl (x : AV) : Wk x x := fun _ _ _ _ h => h
theorem Wk.list {p : Bool} {sz : Nat} {els els' : List (List AV)} (hl : els'.length = els.length) (hc : ∀ (i : Nat) (c : List AV), els'[i]? = some c → ∃ c0 : List AV, els[i]? = some c0 ∧ c0.length = c.length ∧ ∀ (j : Nat) (x : AV), c[j]? = some x → ∃ y, c0[j]? = some y ∧ Wk y x) : Wk (.list p sz els) (.list p sz els') := by
  intro σ K w u h
  rw [VR] at h ⊢
  obtain ⟨a, cap, b, o, h1, h2, h3, h4⟩ := h
  refine ⟨a, cap, b, o, by rw [hl]; exact h1, by rw [hl]; exact h2, ?_, ?_⟩
  · rcases h3 with h3 | h3
    · left
      subst h3
      exact List.eq_nil_of_length_eq_zero hl
    · exact .inr h3
  · rw [LR_iff] at h4 ⊢
    intro i c hi
    obtain ⟨c0, e1, e2, e3⟩ := hc i c hi
    obtain ⟨h5, h6⟩ := h4 i c0 e1
    refine ⟨by omega, CR_iff.2 fun j x hj => ?_⟩
    obtain ⟨y, hy, hw⟩ := e3 j x hj
    obtain ⟨v, hv1, hv2, hv3⟩ := CR_iff.1 h6 j y hy
    exact ⟨v, hv1, hv2, hw _ _ _ _ hv3⟩
theorem Sub.wk {x y : AV} {xs ys : List AV} (hw : Wk x y) (h : Sub xs ys) : Sub (x :: xs) (y :: ys) := by
  intro K w us hv
  obtain ⟨u, us', rfl, h1, h2⟩ := hv
  exact ⟨u, us', rfl, hw _ _ _ _ h1, h K w us' h2⟩

/-- The two objects that awake links. -/
def awake1 : Deck := ⟨⟨#[65]⟩, ⟨#[97, 98, 99, 100, 101, 102]⟩, [], [], []⟩
def awake2 : Deck := ⟨⟨#[66]⟩, ⟨#[119, 120, 121, 122]⟩, [], [], []⟩
def awakeV (n c : ByteArray) : List AV := [.str n, .str c, .nilS, .nilS, .nilS]
theorem awake_wk : Wk (.list false 5 [awakeV awake1.name awake1.code, awakeV awake2.name awake2.code]) (.list false 5 ([awake1, awake2].map Deck.av)) := by
  have one : ∀ n c : ByteArray, ∀ (j : Nat) (x : AV), (Deck.av ⟨n, c, [], [], []⟩)[j]? = some x → ∃ y, (awakeV n c)[j]? = some y ∧ Wk y x := by
    intro n c j x hj
    match j with
    | 0 => injection hj with hj; subst hj; exact ⟨_, rfl, Wk.refl _⟩
    | 1 => injection hj with hj; subst hj; exact ⟨_, rfl, Wk.refl _⟩
    | 2 => injection hj with hj; subst hj; exact ⟨_, rfl, Wk.nil⟩
    | 3 => injection hj with hj; subst hj; exact ⟨_, rfl, Wk.nil⟩
    | 4 => injection hj with hj; subst hj; exact ⟨_, rfl, Wk.nil⟩
    | n + 5 => simp [Deck.av] at hj
  refine Wk.list rfl fun i c hi => ?_
  match i with
  | 0 => injection hi with hi; subst hi; exact ⟨_, rfl, rfl, one _ _⟩
  | 1 => injection hi with hi; subst hi; exact ⟨_, rfl, rfl, one _ _⟩
  | n + 2 => simp at hi

def awakeImg : Img := ⟨16, ⟨#[97, 98, 99, 100, 101, 102, 0, 0, 119, 120, 121, 122]⟩, [⟨⟨#[65]⟩, 16⟩, ⟨⟨#[66]⟩, 24⟩], [], [⟨⟨#[65]⟩, 16⟩, ⟨⟨#[66]⟩, 24⟩]⟩
theorem awake_is : linkL [awake1, awake2] [] 16 = .good awakeImg := by kernel_rfl

theorem awake_small : SmallL [awake1, awake2] := by
  refine ⟨by simp, fun o ho => ?_⟩
  have h : ∀ n c : ByteArray, n.size ≤ 1048576 → c.size ≤ 1048576 → Deck.Small ⟨n, c, [], [], []⟩ := fun n c h1 h2 => ⟨h1, h2, by simp, by simp, by simp, by simp, by simp⟩
  simp only [List.mem_cons, List.not_mem_nil, or_false] at ho
  rcases ho with rfl | rfl
  · exact h _ _ (by decide) (by decide)
  · exact h _ _ (by decide) (by decide)

set_option maxHeartbeats 4000000 in
theorem call6 : PCalls Zk.pg 6 [] fun out => out = .ret (.bool true) := by
  refine ok6.pcalls (by simp) ?_
  have h9 := call21 false true [awake1, awake2] [] 16 awake_small ⟨by simp, by simp⟩ (by simp) (by simp)
  rw [awake_is] at h9
  have h9' := PCalls.sub h9 (Sub.wk awake_wk (Sub.nil (Sub.refl _)))
  simp [c6, List.range_succ]
  refine xcall_p h9' (by simp [awake1, awake2, awakeV, List.range_succ]) ?_
  have e1 : ∀ n : Int, eqI n n = true := fun n => eqI_t.2 rfl
  have e2 : ∀ n : ByteArray, eqS n n = true := fun n => eqS_t.2 rfl
  simp [awakeImg, LRes.av, Img.av, DDef.av, cr6, e1, e2]
end Go.Pm

/- ZkR18: contracts: two objects are the same; LinkReads. -/
namespace Go.Pm
open Go Go.Proofs
attribute [-simp] List.getElem?_map

def eqR (a b : DRef) : Bool := eqI a.at_ b.at_ && eqS a.name b.name && eqI a.plus b.plus
theorem sEq_R (a : DRef) : scalarsEq [.int, .str, .int] a.av a.av = some true := by
  have h : (a.name == a.name) = true := (beq_bytes _ _).2 rfl
  simp [DRef.av, scalarsEq, scalarEq, h]
theorem ref_take (o : DRef) : o.av.take 3 = o.av := rfl
@[simp] theorem ref_len (o : DRef) : o.av.length = 3 := rfl
theorem defsEq_refl (l : List DDef) : defsEq l l = true := by
  unfold defsEq
  rw [eqI_t.2 rfl, Bool.true_and]
  refine List.all_eq_true.2 fun i _ => ?_
  simp [eqD, eqS_t.2, eqI_t.2]
theorem linesEq_refl (l : List DLine) : linesEq l l = true := by
  unfold linesEq
  rw [eqI_t.2 rfl, Bool.true_and]
  refine List.all_eq_true.2 fun i _ => ?_
  simp [eqL, eqI_t.2]

structure Deck.Short (o : Deck) : Prop where
  defs : o.defs.length ≤ 4000000
  refs : o.refs.length ≤ 4000000
  lines : o.lines.length ≤ 4000000

set_option maxHeartbeats 2000000 in
theorem call9 {o : Deck} (h : o.Short) : PCalls Zk.pg 9 [.agg o.av, .agg o.av] fun out => out = .ret (.bool true) := by
  refine ok9.pcalls (by simp) ?_
  obtain ⟨nm, code, defs, refs, lines⟩ := o
  obtain ⟨hd, hr, hl⟩ := h
  simp only at hd hr hl
  simp [c9, Deck.av]
  have q : eqI (refs.length : Int) refs.length = true := eqI_t.2 rfl
  have q2 : eqS nm nm = true := eqS_t.2 rfl
  have q3 : eqS code code = true := eqS_t.2 rfl
  simp [q]
  refine wpS_loop (ι := Nat) (fun i => [(2, .ptr 0 0 0), (3, .ptr 1 1 0), (5, .int .i64 i)])
    (fun _ => ⟨[(0, .cells (Deck.av ⟨nm, code, defs, refs, lines⟩)), (1, .cells (Deck.av ⟨nm, code, defs, refs, lines⟩))], 2⟩) (fun i => refs.length - i) (fun i => i ≤ refs.length) 0 (Nat.zero_le _) (Env.le_of (by simp)) (by simp [Deck.av]) ?_
  intro i hi
  have hw : IntKind.i64.wrap ((i : Int) + 1) = i + 1 := wrap64 (by omega) (by omega)
  simp [Deck.av]
  refine br_cond rfl (fun h1 => ?_) (fun h1 => ?_)
  · have hlt : i < refs.length := by have := ltI_t.1 h1; omega
    simp [h1, idxM, ref_take, sEq_R]
    simp [hw]
    exact ⟨i + 1, by omega, by omega, Env.le_of (by simp), Mem.le_of rfl (by simp)⟩
  · simp [q2, q3]
    refine xcall_p (call30 true true defs defs (by omega) (by omega)) (by simp) ?_
    simp [defsEq_refl]
    refine xcall_p (call31 true true lines lines (by omega) (by omega)) (by simp) ?_
    simp [linesEq_refl, cr9, postP_ret]

theorem QSt.Good.mono {S : QSt} {a n a' n' : Nat} (h : S.Good a n) (ha : a ≤ a') (hn : n ≤ n') : S.Good a' n' :=
  ⟨h.part, Nat.le_trans h.code ha, Nat.le_trans h.defs hn, Nat.le_trans h.refs hn, Nat.le_trans h.lines hn, h.name, h.dname, h.rname⟩
theorem refL_good : ∀ (f : Nat) (S S' : QSt) (n m a : Nat) (l : List UInt8), S.Good a n → l.length ≤ 200000 → refL f S n l = (some S', m) → S'.Good (a + l.length) (n + l.length)
  | 0, _, _, _, _, _, _, _, _, h => by simp [refL] at h
  | f + 1, S, S', n, m, a, l, hG, hl, h => by
    unfold refL at h
    split at h
    · injection h with h h2
      split at h
      · injection h with h; subst h
        exact hG.mono (by omega) (by omega)
      · cases h
    · rename_i x y hc
      have hsz := cutN_size hc
      split at h
      · cases h
      · rename_i S1 h1
        have hG1 := lineQ_good h1 hG (by rw [mkB_size]; omega)
        rw [mkB_size] at hG1
        have := refL_good f S1 S' (n + 1) m _ y hG1 (by omega) h
        exact this.mono (by omega) (by omega)

theorem readRes_cases (t : ByteArray) : (readRes t).1 = noDeck ∨ ∃ o : Deck, (readRes t).1 = o.av ∧ o.Short := by
  rw [reads_same]
  unfold refRes
  split
  · exact .inl rfl
  rename_i h0
  have h200 : t.size ≤ 200000 := by have := ltI_f.1 (show ltI 200000 t.size = false by simpa using h0); omega
  split
  · exact .inl rfl
  · rename_i S n hr
    split
    · split
      · refine .inr ⟨S.o, rfl, ?_⟩
        have hG := refL_good _ _ _ _ _ _ _ startGood (by rw [len_data]; exact h200) hr
        rw [len_data] at hG
        exact ⟨by have := hG.defs; omega, by have := hG.refs; omega, by have := hG.lines; omega⟩
      · exact .inl rfl
    · exact .inl rfl

def sec : SC → SC
  | .seq _ b => b
  | s => s

set_option maxHeartbeats 2000000 in
theorem tail3 (t : ByteArray) (hs : t.size ≤ 1048576) (c : Bool) : wpS Zk.pg Zk.imp (sec (sec (sec c3))) [] (postP cr3 fun out => out = .ret (.bool true)) [(0, .str t), (2, .bool false), (10, .bool false), (23, .bool c)] Mem.empty := by
  have h7 := call7 t hs
  have h8 := call8 t hs
  have he : refAV t = readAV t := by unfold refAV readAV resAV; rw [← reads_same]
  rw [he] at h8
  obtain ⟨c, n, e, hc⟩ : ∃ c n e, readRes t = (c, n, e) := ⟨_, _, _, rfl⟩
  have hcases := readRes_cases t
  rw [hc] at hcases
  simp only at hcases
  have hv : readAV t = .tuple [.agg c, .int .i64 n, .int .i64 e] := by unfold readAV resAV; rw [hc]
  rw [hv] at h7 h8
  have q1 : eqI (n : Int) n = true := eqI_t.2 rfl
  have q2 : eqI e e = true := eqI_t.2 rfl
  simp [sec, c3]
  refine xcall_p h7 rfl ?_
  rcases hcases with rfl | ⟨⟨nm, code, defs, refs, lines⟩, rfl, ho⟩
  · simp [noDeck]
    refine xcall_p h8 rfl ?_
    simp [noDeck]
    have h9 := call9 (o := ⟨⟨#[]⟩, ⟨#[]⟩, [], [], []⟩) ⟨by decide, by decide, by decide⟩
    refine xcall_p (h9.flip (.agg (.cons (.cons (.nil (.nil (.nil (.refl [])))))) (.agg (.cons (.cons (.nil (.nil (.nil (.refl [])))))) (.refl [])))) (by simp) ?_
    simp [q1, q2, cr3, postP_ret]
  · simp [Deck.av]
    refine xcall_p h8 rfl ?_
    simp [Deck.av]
    refine xcall_p (call9 ho) (by simp [Deck.av]) ?_
    simp [q1, q2, cr3, postP_ret]

set_option maxHeartbeats 2000000 in
theorem call3 (t : ByteArray) : PCalls Zk.pg 3 [.str t] fun out => out = .ret (.bool true) := by
  refine ok3.pcalls (by simp) ?_
  simp [c3]
  refine xcall_p call6 rfl ?_
  simp
  refine br_guard_t rfl (fun h1 => ?_) (fun h1 => ?_)
  · simp [h1]
    refine br_guard_f rfl (fun h2 => ?_) (fun h2 => ?_)
    · simp [h2, cr3, postP_ret]
    · simp [h2]
      refine br_cond rfl (fun h3 => ?_) (fun h3 => ?_)
      · simp [cr3, postP_ret]
      · have := ltI_f.1 h3
        rw [wpS_skip, lv_seq]
        exact tail3 t (by omega) _
  · simp [h1]
    refine br_cond rfl (fun h3 => ?_) (fun h3 => ?_)
    · simp [cr3, postP_ret]
    · have := ltI_f.1 h3
      rw [wpS_skip, lv_seq]
      exact tail3 t (by omega) _
end Go.Pm

/- ZkT5: contracts: LinkTexts. -/
namespace Go.Pm
open Go Go.Proofs
attribute [-simp] List.getElem?_map

theorem PCalls.flipE {P : Prg} {f : FuncId} {xs ys : List AV} (h : PCalls P f ys fun out => ∃ b, out = .ret (.bool b)) (hs : SubL xs ys) : PCalls P f xs fun out => ∃ b, out = .ret (.bool b) := by
  refine ⟨h.1, fun K w vals hK hv hl => ?_⟩
  refine (h.2 (K2 K) w vals (fun p b hb => hb.elim (hK true b) (hK false b)) (hs K w vals hv) hl).mono ?_
  rintro e w' ⟨K', out, ⟨b, rfl⟩, hp, hg, _, _, hout⟩
  refine ⟨fun p b => K p b ∨ w.heap.size ≤ b ∧ b < w'.heap.size, .ret (.bool b), ⟨b, rfl⟩, rfl, hg, fun _ _ h => .inl h, fun _ _ h => h, ?_⟩
  obtain ⟨u, h1, h2⟩ := hout
  refine ⟨u, h1, ?_⟩
  rw [VR] at h2 ⊢
  exact h2

theorem one_small {o : Deck} (h : o.Small) : SmallL [o] := ⟨by simp, fun x hx => by rw [List.mem_singleton.1 hx]; exact h⟩

set_option maxHeartbeats 4000000 in
theorem call5 (o : Deck) (hs : o.Small) : PCalls Zk.pg 5 [.agg o.av] fun out => out = .ret (.bool true) := by
  refine ok5.pcalls (by simp) ?_
  have h10 := PCalls.flipE (call10 [o] [] (one_small hs) ⟨by simp, by simp⟩) (xs := [.list false 5 [o.av], .nilS]) (SubL.list (SubL.nil (SubL.refl [])))
  have h13 := call13 false [o] (one_small hs)
  have h19 := call19 o hs
  have h20 := call20 o hs
  have hshort : o.Short := ⟨Nat.le_trans hs.defs (by omega), Nat.le_trans hs.refs (by omega), Nat.le_trans hs.lines (by omega)⟩
  have h9 := call9 hshort
  simp only [List.map_cons, List.map_nil] at h13
  obtain ⟨e, t, htx, hread⟩ : ∃ (e : Int) (t : ByteArray), textAV o = .tuple [.str t, .int .i64 e] ∧ (e ≠ 0 ∨ readRes t = (o.av, 0, 0) ∧ t.size ≤ 200000 ∧ e = 0) := by
    unfold textAV
    split
    · rename_i hok
      split
      · exact ⟨_, _, rfl, .inl (by decide)⟩
      · rename_i hl
        have hl' : (textOf (partsD o)).length ≤ 200000 := by
          have := ltI_f.1 (by simpa using hl)
          omega
        exact ⟨_, _, rfl, .inr ⟨read_text hok hl', by rw [mkB_len]; exact hl', rfl⟩⟩
    · exact ⟨_, _, rfl, .inl (by decide)⟩
  rw [htx] at h19 h20
  have q1 : eqS t t = true := eqS_t.2 rfl
  have q2 : eqI e e = true := eqI_t.2 rfl
  obtain ⟨nm, code, defs, refs, lines⟩ := o
  simp [c5, Deck.av]
  refine xcall_p call6 rfl ?_
  simp
  refine xcall_r (h10.acalls (by simp [Deck.av])) ?_ ?_
  · rintro v m' ⟨⟨b, hb⟩, rfl⟩
    injection hb with hb
    subst hb
    cases b with
    | true => simp [cr5, postP_ret]
    | false =>
      simp
      refine br_cond rfl (fun h1 => ?_) (fun h1 => ?_)
      · simp [cr5, postP_ret]
      simp
      refine xcall_p h13 (by simp [Deck.av]) ?_
      simp [decksAV, Deck.av]
      refine xcall_p h19 (by simp [Deck.av]) ?_
      simp
      refine xcall_p h20 (by simp [Deck.av]) ?_
      simp [q1, q2]
      refine br_cond rfl (fun h2 => ?_) (fun h2 => ?_)
      · simp [cr5, postP_ret]
      · have he0 : e = 0 := eqI_t.1 (by simpa using h2)
        rcases hread with h | ⟨hr, hl, _⟩
        · exact absurd he0 h
        have hv : readAV t = .tuple [.agg (Deck.av ⟨nm, code, defs, refs, lines⟩), .int .i64 (0 : Nat), .int .i64 0] := by unfold readAV resAV; rw [hr]
        have h7 := call7 t (by omega)
        rw [hv] at h7
        simp
        refine xcall_p h7 rfl ?_
        have z : eqI 0 0 = true := rfl
        simp [Deck.av, z]
        refine xcall_p h9 (by simp [Deck.av]) ?_
        simp [cr5, postP_ret]
  · rintro v m' ⟨⟨b, hb⟩, _⟩
    cases hb
end Go.Pm

/- ZkJ: what the arguments' readings say: objects and libraries as values. -/
namespace Go.Pm
open Go Go.Proofs Go.Proofs.YtolfkdphlgkekaaGreatDoor
attribute [-simp] List.getElem?_map List.length_flatten

theorem u3 : Tryz.prog.underlying 3 = some (.int .i64) := by kernel_rfl
theorem u4 : Tryz.prog.underlying 4 = some .bool := by kernel_rfl
theorem u9 : Tryz.prog.underlying 9 = some .string := by kernel_rfl
section
variable {H : Type} {enc : TypeId × Value → H} {w : World}

theorem bulk_pos (d : DataW H) : 1 ≤ Rows.uptoBulk d := by
  cases d with
  | lit l => cases l <;> simp [Rows.uptoBulk]
  | nil => simp [Rows.uptoBulk]
  | ptr d => simp [Rows.uptoBulk]
  | slice elems spare => simp [Rows.uptoBulk]
  | agg parts => simp [Rows.uptoBulk]
  | iface t d => simp [Rows.uptoBulk]
  | map entries => simp [Rows.uptoBulk]
  | held h => simp [Rows.uptoBulk]
theorem bulk_part {d : DataW H} : ∀ {l : List (DataW H)}, d ∈ l → Rows.uptoBulk d ≤ Rows.uptoBulkAll l
  | [], h => by cases h
  | x :: r, h => by
    simp only [Rows.uptoBulkAll]
    rcases List.mem_cons.1 h with rfl | h
    · omega
    · have := bulk_part h; omega
theorem bulk_len : ∀ l : List (DataW H), l.length ≤ Rows.uptoBulkAll l
  | [] => by simp [Rows.uptoBulkAll]
  | x :: r => by
    have h1 := bulk_pos x
    have h2 := bulk_len r
    simp only [Rows.uptoBulkAll, List.length_cons]; omega

def KW (w : World) : Bool → Nat → Prop := fun _ b => b < w.heap.size

/-- A reading by this type is a value of this kind, of that size. -/
def Reads {α : Type} (enc : TypeId × Value → H) (w : World) (t : TypeId) (f : α → List AV) (wt : α → Nat) (Q : α → Prop) : Prop :=
  ∀ (fuel : Nat) (cs : List Value) (x : DataW H × List MemPlace), DataW.trod enc Tryz.prog w 0 (fun _ => true) true fuel t cs = some x →
    ∃ y : α, VRs [] (KW w) w (f y) cs ∧ wt y ≤ Rows.uptoBulk x.1 ∧ (Rows.uptoBulk x.1 ≤ 1048576 → Q y)

theorem reads_str : Reads enc w 9 (fun s : ByteArray => [.str s]) ByteArray.size fun s => s.size ≤ 1048576 := by
  intro fuel cs x h
  obtain ⟨s, rfl, rfl, _⟩ := DataW.trod_string u9 h
  have hb : Rows.uptoBulk (DataW.lit (H := H) (.string s.data.toList)) = s.size + 1 := by simp [Rows.uptoBulk]
  refine ⟨s, ⟨_, _, rfl, by rw [VR], rfl⟩, ?_, ?_⟩
  · simp only [hb]; omega
  · simp only [hb]; omega
theorem reads_int : Reads enc w 3 (fun n : Int => [.int .i64 n]) (fun _ => 0) fun _ => True := by
  intro fuel cs x h
  obtain ⟨n, rfl, rfl, _⟩ := DataW.trod_int u3 h
  exact ⟨n, ⟨_, _, rfl, by rw [VR], rfl⟩, Nat.zero_le _, fun _ => trivial⟩

theorem pick {α : Type} {R : Nat → α → Prop} : ∀ n, (∀ i, i < n → ∃ y, R i y) → ∃ ys : List α, ys.length = n ∧ ∀ (i : Nat) (y : α), ys[i]? = some y → R i y
  | 0, _ => ⟨[], rfl, fun i y h => by simp at h⟩
  | n + 1, h => by
    obtain ⟨ys, h1, h2⟩ := pick n fun i hi => h i (by omega)
    obtain ⟨y, hy⟩ := h n (by omega)
    refine ⟨ys ++ [y], by simp [h1], fun i z hz => ?_⟩
    rcases Nat.lt_or_ge i n with hi | hi
    · rw [List.getElem?_append_left (by omega)] at hz
      exact h2 i z hz
    · rw [List.getElem?_append_right (by omega), h1] at hz
      have hi2 : i - n = 0 := by
        rcases Nat.eq_zero_or_pos (i - n) with h3 | h3
        · exact h3
        · rw [List.getElem?_eq_none (by simp; omega)] at hz; cases hz
      rw [hi2] at hz
      injection hz with hz; subst hz
      have : i = n := by omega
      subst this; exact hy
theorem sum_bulk {α : Type} {wt : α → Nat} : ∀ (ys : List α) (es : List (DataW H × List MemPlace)), ys.length = es.length → (∀ (i : Nat) (y : α), ys[i]? = some y → ∃ e : DataW H × List MemPlace, es[i]? = some e ∧ wt y ≤ Rows.uptoBulk e.1) → (ys.map wt).sum ≤ Rows.uptoBulkAll (es.map (·.1))
  | [], es, _, _ => by simp
  | y :: ys, [], h, _ => by simp at h
  | y :: ys, e :: es, h, hh => by
    have ih := sum_bulk ys es (by simpa using h) fun i z hz => by simpa using hh (i + 1) z (by simpa using hz)
    obtain ⟨e', he, hw⟩ := hh 0 y rfl
    injection he with he; subst he
    simp only [List.map_cons, List.sum_cons, Rows.uptoBulkAll]
    omega

theorem reads_slice {α : Type} {t e : TypeId} {sz : Nat} {f : α → List AV} {wt : α → Nat} {Q : α → Prop} {wt' : List α → Nat} {Q' : List α → Prop} (he : Reads enc w e f wt Q) (ht : Tryz.prog.underlying t = some (.slice e)) (hsz : Tryz.prog.cellsOf e = sz) (h0 : 0 < sz)
    (hf : ∀ y, (f y).length = sz ∧ ∀ a ∈ f y, a.one = true)
    (hw : ∀ (ys : List α) (b : Nat), ys.length ≤ b → (ys.map wt).sum ≤ b → (b ≤ 1048576 → ∀ y ∈ ys, Q y) → wt' ys ≤ b ∧ (b ≤ 1048576 → Q' ys)) :
    Reads enc w t (fun ys : List α => [.list true sz (ys.map f)]) wt' Q' := by
  intro fuel cs x h
  rcases DataW.trod_slice ht h with ⟨rfl, rfl⟩ | ⟨a, len, cap, elems, rest, n, rfl, rfl, rfl, hb, hle, hcap, hel, hget, _, _⟩
  · obtain ⟨h1, h2⟩ := hw [] (Rows.uptoBulk (DataW.nil (H := H))) (by simp) (by simp) (by simp)
    refine ⟨[], ⟨_, _, rfl, ?_, rfl⟩, h1, h2⟩
    rw [VR]
    exact ⟨none, 0, 0, 0, rfl, Nat.le_refl _, .inl rfl, by simp [LR]⟩
  · rw [hsz] at hget
    obtain ⟨ys, hyl, hys⟩ := pick (R := fun i y => ∃ c e', w.cells? 0 (a.add (i * sz)) sz = some c ∧ elems[i]? = some e' ∧ VRs [] (KW w) w (f y) c ∧ wt y ≤ Rows.uptoBulk e'.1 ∧ (Rows.uptoBulk e'.1 ≤ 1048576 → Q y)) len fun i hi => by
      have hg := hget i hi
      have hlt : i < elems.length := by omega
      rw [List.getElem?_eq_getElem hlt, Option.bind_eq_some_iff] at hg
      obtain ⟨c, hc, hr⟩ := hg
      obtain ⟨y, hy⟩ := he _ _ _ hr
      exact ⟨y, c, elems[i], hc, List.getElem?_eq_getElem hlt, hy⟩
    have hbl : Rows.uptoBulkAll (elems.map (·.1)) ≤ Rows.uptoBulk (DataW.slice (elems.map (·.1)) (rest.map (·.1))) := by
      simp only [Rows.uptoBulk]; omega
    have hln := bulk_len (elems.map (·.1))
    rw [List.length_map, hel] at hln
    have hsum := sum_bulk (wt := wt) ys elems (by omega) fun i y hy => by
      obtain ⟨c, e', _, h2, _, h4, _⟩ := hys i y hy
      exact ⟨e', h2, h4⟩
    obtain ⟨h1, h2⟩ := hw ys (Rows.uptoBulk (DataW.slice (elems.map (·.1)) (rest.map (·.1)))) (by omega) (by omega) fun hsm y hy => by
      obtain ⟨i, hi, rfl⟩ := List.getElem_of_mem hy
      obtain ⟨c, e', _, h2, _, _, h5⟩ := hys i _ (List.getElem?_eq_getElem hi)
      refine h5 ?_
      have := bulk_part (d := e'.1) (l := elems.map (·.1)) (List.mem_map.2 ⟨e', List.mem_of_getElem? h2, rfl⟩)
      omega
    refine ⟨ys, ⟨_, _, rfl, ?_, rfl⟩, h1, h2⟩
    rw [VR]
    rcases Nat.eq_zero_or_pos len with hl0 | hlp
    · have : ys = [] := List.eq_nil_of_length_eq_zero (by omega)
      subst this
      exact ⟨some a, cap, 0, 0, by simp [hl0], by simp, .inl rfl, by simp [LR]⟩
    · obtain ⟨ab, ao, asp⟩ := a
      have hcell : ∀ (i : Nat) (y : α), ys[i]? = some y → ∃ c : List Value, VRs [] (KW w) w (f y) c ∧ c.length = sz ∧ ∀ j, j < sz → w.cell? (((⟨ab, ao, asp⟩ : Addr).add (i * sz)).add j) = c[j]? := fun i y hy => by
        obtain ⟨c, e', h3, _, h4, _⟩ := hys i y hy
        obtain ⟨_, h5, h6⟩ := World.cells?_some h3
        exact ⟨c, h4, h5, h6⟩
      have hfirst : ∃ u, w.cell? (((⟨ab, ao, asp⟩ : Addr).add (0 * sz)).add 0) = some u := by
        obtain ⟨c, h3, h4, h5⟩ := hcell 0 ys[0] (List.getElem?_eq_getElem (by omega))
        exact ⟨c[0], by rw [h5 0 h0]; exact List.getElem?_eq_getElem (by omega)⟩
      obtain ⟨u, hu⟩ := hfirst
      have hsp : asp = none := by simpa [Addr.add] using World.cell?_spot hu
      subst hsp
      have hadd : ∀ i j, ((⟨ab, ao, none⟩ : Addr).add i).add j = ⟨ab, ao + i + j, none⟩ := fun i j => by
        rcases Nat.eq_zero_or_pos i with rfl | hi <;> rcases Nat.eq_zero_or_pos j with rfl | hj <;> simp [Addr.add, Nat.ne_of_gt, *]
      rw [hadd] at hu
      have hK : ab < w.heap.size := by
        rcases Nat.lt_or_ge ab w.heap.size with h3 | h3
        · exact h3
        · have hno : w.heap[ab]? = none := by simp; omega
          simp [World.cell?, hno] at hu
      refine ⟨some ⟨ab, ao, none⟩, cap, ab, ao, by simp [hyl], by simp [hyl]; exact hle, .inr ⟨rfl, hK⟩, ?_⟩
      rw [LR_iff]
      intro i c hc
      rw [List.getElem?_map, Option.map_eq_some_iff] at hc
      obtain ⟨y, hy, rfl⟩ := hc
      obtain ⟨c, h3, h4, h5⟩ := hcell i y hy
      refine ⟨(hf y).1, CR_iff.2 fun j z hj => ?_⟩
      obtain ⟨v, hv, hvr⟩ := (VRs_iff.1 h3).2 j z hj
      have hjl : j < sz := by
        have := (List.getElem?_eq_some_iff.1 hj).1
        rw [(hf y).1] at this; exact this
      have := h5 j hjl
      rw [hadd, hv] at this
      exact ⟨v, this, VR.oneCell hvr ((hf y).2 z (List.mem_of_getElem? hj)), hvr⟩

theorem field_bulk {xs : List (DataW H × List MemPlace)} {i : Nat} {x : DataW H × List MemPlace} (h : xs[i]? = some x) : Rows.uptoBulk x.1 ≤ Rows.uptoBulk (DataW.agg (xs.map (·.1))) := by
  have := bulk_part (d := x.1) (l := xs.map (·.1)) (List.mem_map.2 ⟨x, List.mem_of_getElem? h, rfl⟩)
  simp only [Rows.uptoBulk]; omega
theorem VRs_at {K : Bool → Nat → Prop} {w : World} {v : AV} {cs : List Value} {off : Nat} (h : VRs [] K w [v] ((cs.drop off).take 1)) : ∃ u, cs[off]? = some u ∧ VR [] K w v u := by
  obtain ⟨u, us, h1, h2, h3⟩ := h
  refine ⟨u, ?_, h2⟩
  have h4 : ((cs.drop off).take 1)[0]? = some u := by rw [h1]; rfl
  rw [List.getElem?_take] at h4
  simpa using h4
theorem VRs_of {K : Bool → Nat → Prop} {w : World} {xs : List AV} {cs : List Value} (hl : cs.length = xs.length) (h : ∀ (j : Nat) (x : AV), xs[j]? = some x → ∃ u, cs[j]? = some u ∧ VR [] K w x u) : VRs [] K w xs cs := VRs_iff.2 ⟨hl, h⟩


theorem u23 : Tryz.prog.underlying 23 = some (.slice 65) := by kernel_rfl
theorem u24 : Tryz.prog.underlying 24 = some (.slice 77) := by kernel_rfl
theorem u25 : Tryz.prog.underlying 25 = some (.slice 79) := by kernel_rfl
theorem u65 : Tryz.prog.underlying 65 = some (.struct #[{ name := "Name", type := 9, offset := 0, embedded := false, tag := "", pkgPath := "", byteOffset := 0 }, { name := "At", type := 3, offset := 1, embedded := false, tag := "", pkgPath := "", byteOffset := 16 }]) := by kernel_rfl
theorem u77 : Tryz.prog.underlying 77 = some (.struct #[{ name := "At", type := 3, offset := 0, embedded := false, tag := "", pkgPath := "", byteOffset := 0 }, { name := "Name", type := 9, offset := 1, embedded := false, tag := "", pkgPath := "", byteOffset := 8 }, { name := "Plus", type := 3, offset := 2, embedded := false, tag := "", pkgPath := "", byteOffset := 24 }]) := by kernel_rfl
theorem u79 : Tryz.prog.underlying 79 = some (.struct #[{ name := "At", type := 3, offset := 0, embedded := false, tag := "", pkgPath := "", byteOffset := 0 }, { name := "Stmt", type := 3, offset := 1, embedded := false, tag := "", pkgPath := "", byteOffset := 8 }]) := by kernel_rfl
theorem u27 : Tryz.prog.underlying 27 = some (.struct #[{ name := "Name", type := 9, offset := 0, embedded := false, tag := "", pkgPath := "", byteOffset := 0 }, { name := "Code", type := 9, offset := 1, embedded := false, tag := "", pkgPath := "", byteOffset := 16 }, { name := "Defs", type := 23, offset := 2, embedded := false, tag := "", pkgPath := "", byteOffset := 32 }, { name := "Refs", type := 24, offset := 3, embedded := false, tag := "", pkgPath := "", byteOffset := 56 }, { name := "Lines", type := 25, offset := 4, embedded := false, tag := "", pkgPath := "", byteOffset := 80 }]) := by kernel_rfl
theorem cells3 : Tryz.prog.cellsOf 3 = 1 := by kernel_rfl
theorem cells9 : Tryz.prog.cellsOf 9 = 1 := by kernel_rfl
theorem cells23 : Tryz.prog.cellsOf 23 = 1 := by kernel_rfl
theorem cells24 : Tryz.prog.cellsOf 24 = 1 := by kernel_rfl
theorem cells25 : Tryz.prog.cellsOf 25 = 1 := by kernel_rfl
theorem cells65 : Tryz.prog.cellsOf 65 = 2 := by kernel_rfl
theorem cells77 : Tryz.prog.cellsOf 77 = 3 := by kernel_rfl
theorem cells79 : Tryz.prog.cellsOf 79 = 2 := by kernel_rfl
theorem cells27 : Tryz.prog.cellsOf 27 = 5 := by kernel_rfl

theorem field_at {t : TypeId} {n off : Nat} {cs : List Value} {xs : List (DataW H × List MemPlace)} {i : Nat} (hl : i < xs.length) (h : DataW.trod enc Tryz.prog w 0 (fun _ => true) true n t ((cs.drop off).take (Tryz.prog.cellsOf t)) = xs[i]?) (hc : Tryz.prog.cellsOf t = 1)
    {α : Type} {f : α → AV} {wt : α → Nat} {Q : α → Prop} (hr : Reads enc w t (fun y => [f y]) wt Q) : ∃ y, (∃ u, cs[off]? = some u ∧ VR [] (KW w) w (f y) u) ∧ wt y ≤ Rows.uptoBulk (DataW.agg (xs.map (·.1))) ∧ (Rows.uptoBulk (DataW.agg (xs.map (·.1))) ≤ 1048576 → Q y) := by
  rw [List.getElem?_eq_getElem hl, hc] at h
  obtain ⟨y, h1, h2, h3⟩ := hr _ _ _ h
  have hb := field_bulk (List.getElem?_eq_getElem hl)
  exact ⟨y, VRs_at h1, Nat.le_trans h2 hb, fun h4 => h3 (Nat.le_trans hb h4)⟩

theorem reads_def : Reads enc w 65 DDef.av (fun _ => 0) fun d => d.name.size ≤ 1048576 := by
  intro fuel cs x h
  obtain ⟨xs, n, rfl, rfl, hl, hxl, hget⟩ := DataW.trod_struct u65 h
  rw [cells65] at hl
  have hxl : xs.length = 2 := hxl
  obtain ⟨s, s1, _, s3⟩ := field_at (i := 0) (by omega) (hget 0 _ rfl) cells9 reads_str
  obtain ⟨a, a1, _, _⟩ := field_at (i := 1) (by omega) (hget 1 _ rfl) cells3 reads_int
  refine ⟨⟨s, a⟩, VRs_of hl fun j z hj => ?_, Nat.zero_le _, s3⟩
  match j with
  | 0 => injection hj with hj; subst hj; exact s1
  | 1 => injection hj with hj; subst hj; exact a1
  | j + 2 => simp [DDef.av] at hj
theorem reads_ref : Reads enc w 77 DRef.av (fun _ => 0) fun d => d.name.size ≤ 1048576 := by
  intro fuel cs x h
  obtain ⟨xs, n, rfl, rfl, hl, hxl, hget⟩ := DataW.trod_struct u77 h
  rw [cells77] at hl
  have hxl : xs.length = 3 := hxl
  obtain ⟨b, b1, _, _⟩ := field_at (i := 0) (by omega) (hget 0 _ rfl) cells3 reads_int
  obtain ⟨s, s1, _, s3⟩ := field_at (i := 1) (by omega) (hget 1 _ rfl) cells9 reads_str
  obtain ⟨a, a1, _, _⟩ := field_at (i := 2) (by omega) (hget 2 _ rfl) cells3 reads_int
  refine ⟨⟨b, s, a⟩, VRs_of hl fun j z hj => ?_, Nat.zero_le _, s3⟩
  match j with
  | 0 => injection hj with hj; subst hj; exact b1
  | 1 => injection hj with hj; subst hj; exact s1
  | 2 => injection hj with hj; subst hj; exact a1
  | j + 3 => simp [DRef.av] at hj
theorem reads_line : Reads enc w 79 DLine.av (fun _ => 0) fun _ => True := by
  intro fuel cs x h
  obtain ⟨xs, n, rfl, rfl, hl, hxl, hget⟩ := DataW.trod_struct u79 h
  rw [cells79] at hl
  have hxl : xs.length = 2 := hxl
  obtain ⟨b, b1, _, _⟩ := field_at (i := 0) (by omega) (hget 0 _ rfl) cells3 reads_int
  obtain ⟨a, a1, _, _⟩ := field_at (i := 1) (by omega) (hget 1 _ rfl) cells3 reads_int
  refine ⟨⟨b, a⟩, VRs_of hl fun j z hj => ?_, Nat.zero_le _, fun _ => trivial⟩
  match j with
  | 0 => injection hj with hj; subst hj; exact b1
  | 1 => injection hj with hj; subst hj; exact a1
  | j + 2 => simp [DLine.av] at hj

theorem reads_list {α : Type} {t e : TypeId} {sz : Nat} {f : α → List AV} {wt : α → Nat} {Q : α → Prop} (he : Reads enc w e f wt Q) (ht : Tryz.prog.underlying t = some (.slice e)) (hsz : Tryz.prog.cellsOf e = sz) (h0 : 0 < sz)
    (hf : ∀ y, (f y).length = sz ∧ ∀ a ∈ f y, a.one = true) :
    Reads enc w t (fun ys : List α => [.list true sz (ys.map f)]) List.length (fun ys => ys.length ≤ 1048576 ∧ ∀ y ∈ ys, Q y) :=
  reads_slice he ht hsz h0 hf fun _ _ h1 _ h3 => ⟨h1, fun hb => ⟨by omega, h3 hb⟩⟩

theorem reads_deck : Reads enc w 27 Deck.av (fun _ => 0) Deck.Small := by
  intro fuel cs x h
  obtain ⟨xs, n, rfl, rfl, hl, hxl, hget⟩ := DataW.trod_struct u27 h
  rw [cells27] at hl
  have hxl : xs.length = 5 := hxl
  obtain ⟨a, a1, _, a3⟩ := field_at (i := 0) (by omega) (hget 0 _ rfl) cells9 reads_str
  obtain ⟨b, b1, _, b3⟩ := field_at (i := 1) (by omega) (hget 1 _ rfl) cells9 reads_str
  obtain ⟨c, c1, _, c3⟩ := field_at (i := 2) (by omega) (hget 2 _ rfl) cells23 (reads_list reads_def u23 cells65 (by omega) fun y => ⟨rfl, by simp [DDef.av, AV.one]⟩)
  obtain ⟨d, d1, _, d3⟩ := field_at (i := 3) (by omega) (hget 3 _ rfl) cells24 (reads_list reads_ref u24 cells77 (by omega) fun y => ⟨rfl, by simp [DRef.av, AV.one]⟩)
  obtain ⟨e, e1, _, e3⟩ := field_at (i := 4) (by omega) (hget 4 _ rfl) cells25 (reads_list reads_line u25 cells79 (by omega) fun y => ⟨rfl, by simp [DLine.av, AV.one]⟩)
  refine ⟨⟨a, b, c, d, e⟩, VRs_of hl fun j z hj => ?_, Nat.zero_le _, fun hb => ⟨a3 hb, b3 hb, (c3 hb).1, (d3 hb).1, (e3 hb).1, (c3 hb).2, (d3 hb).2⟩⟩
  match j with
  | 0 => injection hj with hj; subst hj; exact a1
  | 1 => injection hj with hj; subst hj; exact b1
  | 2 => injection hj with hj; subst hj; exact c1
  | 3 => injection hj with hj; subst hj; exact d1
  | 4 => injection hj with hj; subst hj; exact e1
  | j + 5 => simp [Deck.av] at hj
end
end Go.Pm
