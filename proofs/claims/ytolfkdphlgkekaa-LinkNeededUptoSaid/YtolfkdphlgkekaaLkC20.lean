/- LkC20: contracts: the image, its code as bytes. -/
import Derived.Test.YtolfkdphlgkekaaLkC19
import Derived.Test.YtolfkdphlgkekaaLkC24
namespace Go.Pm
open Go Go.Proofs
attribute [-simp] List.getElem?_map

def rowB (b : List UInt8) : List (List AV) := b.map fun x => [.int .u8 x.toNat]
def splice (b : List UInt8) (at_ : Nat) (s : List UInt8) : List UInt8 := b.take at_ ++ s ++ b.drop (at_ + s.length)
def fourL (n : Int) : List UInt8 := [byteF n 24, byteF n 16, byteF n 8, byteF n 0]
def patchRefs (nm : List DDef) (at_ : Nat) : List DRef → List UInt8 → List UInt8
  | [], b => b
  | r :: rs, b => patchRefs nm at_ rs (splice b (at_ + r.at_.toNat) (fourL ((outerF nm r.name).getD 0 + r.plus)))
def placeObjs (nm : List DDef) (base : Int) : List (Deck × DDef) → List UInt8 → List UInt8
  | [], b => b
  | (o, d) :: l, b => placeObjs nm base l (patchRefs nm (d.at_ - base).toNat o.refs (splice b (d.at_ - base).toNat o.code.data.toList))
instance : Inhabited (Deck × DDef) := ⟨(default, default)⟩

theorem splice_len {b s : List UInt8} {n : Nat} (h : n + s.length ≤ b.length) : (splice b n s).length = b.length := by
  unfold splice; simp; omega
theorem patch_len {nm : List DDef} {a : Nat} : ∀ {rs : List DRef} {b : List UInt8}, (∀ r ∈ rs, a + r.at_.toNat + 4 ≤ b.length) → (patchRefs nm a rs b).length = b.length
  | [], b, _ => rfl
  | r :: rs, b, h => by
    rw [patchRefs]
    have h0 := h r (by simp)
    have hl : (splice b (a + r.at_.toNat) (fourL ((outerF nm r.name).getD 0 + r.plus))).length = b.length := splice_len (by simp [fourL]; omega)
    rw [patch_len (fun r' hr => by rw [hl]; exact h r' (by simp [hr])), hl]

/-- What a linker's state may be when its image is made. -/
structure LSt.Placed (s : LSt) (base : Int) : Prop where
  small : s.Small
  base0 : 0 ≤ base
  base1 : base ≤ s.end_
  places : ∀ i, i < s.objs.length → base ≤ (ix s.places i).at_ ∧ (ix s.places i).at_ + (ix s.objs i).code.size ≤ s.end_
  refs : ∀ o ∈ s.objs, ∀ r ∈ o.refs, 0 ≤ r.at_ ∧ r.at_ + 4 ≤ o.code.size ∧ -1000000000 ≤ r.plus ∧ r.plus ≤ 1000000000
  names : ∀ n v, outerF s.nmap n = some v → 0 ≤ v ∧ v ≤ 1000000000000
  distinct : (s.defs.map (·.name)).Nodup

def imageCode (s : LSt) (base : Int) : List UInt8 := placeObjs s.nmap base (s.objs.zip s.places) (List.replicate (s.end_ - base).toNat 0)

theorem byte_wrap (n : Int) : AV.int .u8 (IntKind.u8.wrap n) = AV.int .u8 ((UInt8.ofNat (IntKind.u8.wrap n).toNat).toNat : Nat) := by
  have h : IntKind.u8.wrap n = n % 256 := by simp [IntKind.wrap, IntKind.bits, IntKind.signed]
  rw [h]
  have h0 : 0 ≤ n % 256 := Int.emod_nonneg _ (by omega)
  have h1 : n % 256 < 256 := Int.emod_lt_of_pos _ (by omega)
  congr 1
  rw [UInt8.toNat_ofNat']
  omega
theorem u8_wrap (n : Int) : IntKind.u8.wrap n = n % 256 := by simp [IntKind.wrap, IntKind.bits, IntKind.signed]
theorem u32_wrap (n : Int) : IntKind.u32.wrap n = n % 4294967296 := by simp [IntKind.wrap, IntKind.bits, IntKind.signed]
theorem u32_24 (n : Int) : IntKind.u8.wrap ((IntKind.u32.wrap n).fdiv 16777216) = IntKind.u8.wrap (n.fdiv (2 ^ 24)) := by
  rw [u8_wrap, u8_wrap, u32_wrap, Int.fdiv_eq_ediv_of_nonneg _ (by omega), show (2 : Int) ^ 24 = 16777216 from rfl, Int.fdiv_eq_ediv_of_nonneg _ (by omega)]; omega
theorem u32_16 (n : Int) : IntKind.u8.wrap ((IntKind.u32.wrap n).fdiv 65536) = IntKind.u8.wrap (n.fdiv (2 ^ 16)) := by
  rw [u8_wrap, u8_wrap, u32_wrap, Int.fdiv_eq_ediv_of_nonneg _ (by omega), show (2 : Int) ^ 16 = 65536 from rfl, Int.fdiv_eq_ediv_of_nonneg _ (by omega)]; omega
theorem u32_8 (n : Int) : IntKind.u8.wrap ((IntKind.u32.wrap n).fdiv 256) = IntKind.u8.wrap (n.fdiv (2 ^ 8)) := by
  rw [u8_wrap, u8_wrap, u32_wrap, Int.fdiv_eq_ediv_of_nonneg _ (by omega), show (2 : Int) ^ 8 = 256 from rfl, Int.fdiv_eq_ediv_of_nonneg _ (by omega)]; omega
theorem u32_0 (n : Int) : IntKind.u8.wrap (IntKind.u32.wrap n) = IntKind.u8.wrap (n.fdiv (2 ^ 0)) := by
  rw [u8_wrap, u8_wrap, u32_wrap, show (2 : Int) ^ 0 = 1 from rfl, Int.fdiv_eq_ediv_of_nonneg _ (by omega)]; omega
theorem bytes_back (b : List UInt8) : (rowB b).mapM byteOf = some b := by
  induction b with
  | nil => rfl
  | cons x b ih =>
    unfold rowB at ih ⊢
    rw [List.map_cons, List.mapM_cons, ih]
    simp [byteOf]

@[simp] theorem rowB_len (b : List UInt8) : (rowB b).length = b.length := by simp [rowB]
theorem bytesOf_rowB (s : ByteArray) : bytesOf s = rowB s.data.toList := rfl
theorem rowB_splice {b s : List UInt8} {off n : Nat} (hs : s.length ≤ n) : (rowB b).take off ++ (rowB s).take (min s.length n) ++ (rowB b).drop (off + min s.length n) = rowB (splice b off s) := by
  rw [Nat.min_eq_left hs]
  unfold rowB splice
  rw [List.map_append, List.map_append, List.map_take, List.map_drop, List.take_of_length_le (l := s.map _) (by simp)]

theorem four_row (n : Int) : rowB (fourL n) = [[.int .u8 (IntKind.u8.wrap (n.fdiv (2 ^ 24)))], [.int .u8 (IntKind.u8.wrap (n.fdiv (2 ^ 16)))], [.int .u8 (IntKind.u8.wrap (n.fdiv (2 ^ 8)))], [.int .u8 (IntKind.u8.wrap (n.fdiv (2 ^ 0)))]] := by
  unfold rowB fourL byteF
  rw [byte_wrap, byte_wrap, byte_wrap, byte_wrap]
  rfl

def lkDone (L : Nat) (base : Int) (G : LG) (s : LSt) : List (Nat × AObj) :=
  [(G.a, .map (namesM s.nmap)), (G.a + 1, .map (setS s.own)),
   (G.a + 2, .cells [.int .i64 base, .str ⟨(imageCode s base).toArray⟩, .row (L + 5) G.d 2 0 s.defs.length, .row (L + 6) G.l 2 0 s.lines.length, .row (L + 4) G.n 2 0 s.places.length, .row (L + 3) G.o 5 0 s.objs.length, .map L G.a, .map (L + 1) (G.a + 1), .int .i64 s.end_]),
   (G.o, .row 51 5 (s.objs.map Deck.av)), (G.n, .row 40 2 (s.places.map DDef.av)), (G.d, .row 40 2 ((sortD s.defs).map DDef.av)), (G.l, .row 102 2 (s.lines.map DLine.av))]

set_option maxHeartbeats 4000000 in
theorem call29 (pre : List (Nat × AObj)) (base : Int) (G : LG) (s : LSt) (nx : Nat) (hp : s.Placed base) :
    ACalls Try.prog 29 [.ptr (pre.length + 2) (G.a + 2) 0] ⟨pre ++ lkObjs pre.length base G s, nx⟩ fun out m =>
      out = .ret (.agg [.int .i64 base, .str ⟨(imageCode s base).toArray⟩, .row (pre.length + 5) G.d 2 0 s.defs.length, .row (pre.length + 6) G.l 2 0 s.lines.length, .row (pre.length + 4) G.n 2 0 s.places.length]) ∧ ∃ nx', m = ⟨pre ++ lkDone pre.length base G s, nx'⟩ := by
  refine ACalls.forget ?_
  refine ok29.acalls (by simp) ?_
  have hs := hp.small
  have sl := hs.objs
  have s1 := hs.places
  have s2 : s.defs.length ≤ 3000000000000 := by have := hs.defs; omega
  have s4 := hp.base1
  have s0 := hp.base0
  have s5 : s.end_ ≤ 900000000000 := by have := hs.end1; omega
  have hsub : IntKind.i64.wrap (s.end_ - base) = s.end_ - base := wrap64 (by omega) (by omega)
  have hmk : 0 ≤ s.end_ - base ∧ (s.end_ - base).toNat ≤ 140737488355328 ∧ s.end_ - base ≤ 9223372036854775807 := ⟨by omega, by omega, by omega⟩
  generalize hC : imageCode s base = C
  simp [c29, lkObjs, lkCells, hsub, hmk, s4]
  generalize hT : (s.end_ - base).toNat = T at *
  have hTi : (T : Int) = s.end_ - base := by omega
  have hzl : (s.objs.zip s.places).length = s.objs.length := by rw [List.length_zip, s1, Nat.min_self]
  refine wpS_loopS (ι := (Nat × List UInt8) × Nat) (fun u => [(0, .ptr (pre.length + 2) (G.a + 2) 0), (2, .ptr (pre.length + 7) nx 0), (3, .row (pre.length + 8) (nx + 1) 1 0 T), (24, .row (pre.length + 3) G.o 5 0 s.objs.length), (25, .int .i64 s.objs.length), (26, .int .i64 u.1.1)])
    (fun u => ⟨pre ++ (lkObjs pre.length base G s ++ [(nx, .cells [.int .i64 0, .str ⟨#[]⟩, .nilS, .nilS, .nilS]), (nx + 1, .row 5 1 (rowB u.1.2))]), u.2⟩) (fun u => s.objs.length - u.1.1)
    (fun u => u.1.1 ≤ s.objs.length ∧ u.1.2.length = T ∧ C = placeObjs s.nmap base ((s.objs.zip s.places).drop u.1.1) u.1.2) ((0, List.replicate T 0), nx + 1 + 1) ⟨Nat.zero_le _, by simp, by rw [← hC, ← hT]; rfl⟩
    (Sim.of_le (Env.le_of (by simp)) (Mem.le_of rfl (by simp [lkObjs, lkCells, rowB]))) ?_
  intro ⟨⟨i, b⟩, ny⟩ ⟨hi, hbl, hall⟩
  simp only at hi hbl hall
  have hw : IntKind.i64.wrap (i + 1) = i + 1 := wrap64 (by omega) (by omega)
  simp
  refine br_cond rfl (fun h => ?_) (fun h => ?_)
  · have hlt : i < s.objs.length := by have := ltI_t.1 h; omega
    have h' : ltI ↑i ↑s.places.length = true := by rw [s1]; exact h
    have hpl := hp.places i hlt
    have hrf := hp.refs _ (ix_mem hlt)
    have hfit := hs.fit _ (ix_mem hlt)
    have hcd := hfit.code
    have hix : ix (s.objs.zip s.places) i = (ix s.objs i, ix s.places i) := by
      have h1 : i < s.places.length := by omega
      have hz : (s.objs.zip s.places)[i]? = some (s.objs[i], s.places[i]) := by rw [List.getElem?_eq_getElem (by omega)]; simp
      simp [ix, List.getD, hz, hlt, h1]
    rw [drop_ix (by omega), hix, placeObjs] at hall
    generalize hoi : ix s.objs i = o at *
    generalize hdi : ix s.places i = d at *
    have hwa : IntKind.i64.wrap (d.at_ - base) = d.at_ - base := wrap64 (by omega) (by omega)
    have hsz : o.code.data.toList.length = o.code.size := by simp
    simp [h, h', idxM, hoi, hdi, lkObjs, lkCells, DDef.av, Deck.av, hwa, sliceA, boundsA, srcOf]
    have hcond : base ≤ d.at_ ∧ d.at_ - base ≤ (T : Int) := ⟨by omega, by omega⟩
    obtain ⟨a, ha⟩ : ∃ a : Nat, a = (d.at_ - base).toNat := ⟨_, rfl⟩
    have hai : d.at_ - base = (a : Int) := by omega
    have haT : a + o.code.size ≤ T := by omega
    rw [← ha] at hall ⊢
    have hb2 : a + (T - a) ≤ b.length := by omega
    have hsp : (rowB b).take a ++ ((bytesOf o.code).take (min (bytesOf o.code).length (T - a)) ++ (rowB b).drop (a + min (bytesOf o.code).length (T - a))) = rowB (splice b a o.code.data.toList) := by
      have e := rowB_splice (b := b) (s := o.code.data.toList) (off := a) (n := T - a) (by rw [hsz]; omega)
      rw [bytesOf_rowB, rowB_len, ← e, List.append_assoc]
    have hspl : (splice b a o.code.data.toList).length = T := by rw [splice_len (by omega), hbl]
    simp [hcond, hb2, hsp, srcOf]
    rw [hai]
    clear hb2 hsp
    refine wpS_loopS (ι := (Nat × List UInt8) × Nat) (fun u => [(0, .ptr (pre.length + 2) (G.a + 2) 0), (2, .ptr (pre.length + 7) nx 0), (3, .row (pre.length + 8) (nx + 1) 1 0 T), (6, .int .i64 a), (24, .row (pre.length + 3) G.o 5 0 s.objs.length), (25, .int .i64 s.objs.length), (26, .int .i64 i), (53, .list true 3 (o.refs.map DRef.av)), (54, .int .i64 o.refs.length), (55, .int .i64 u.1.1)])
      (fun u => ⟨pre ++ (lkObjs pre.length base G s ++ [(nx, .cells [.int .i64 0, .str ⟨#[]⟩, .nilS, .nilS, .nilS]), (nx + 1, .row 5 1 (rowB u.1.2))]), u.2⟩) (fun u => o.refs.length - u.1.1)
      (fun u => u.1.1 ≤ o.refs.length ∧ u.1.2.length = T ∧ C = placeObjs s.nmap base ((s.objs.zip s.places).drop (i + 1)) (patchRefs s.nmap a (o.refs.drop u.1.1) u.1.2)) ((0, splice b a o.code.data.toList), ny + 1) ⟨Nat.zero_le _, hspl, hall⟩
      (Sim.of_le (Env.le_of (by simp)) (Mem.le_of rfl (by simp [lkObjs, lkCells, rowB]))) ?_
    clear hall hspl hbl
    intro ⟨⟨k, b⟩, nz⟩ ⟨hk, hbl, hka⟩
    simp only at hk hbl hka
    have hrl := hfit.small.refs
    have hwk : IntKind.i64.wrap (k + 1) = k + 1 := wrap64 (by omega) (by omega)
    simp
    refine br_cond rfl (fun h2 => ?_) (fun h2 => ?_)
    · have hlk : k < o.refs.length := by have := ltI_t.1 h2; omega
      obtain ⟨r1, r2, r3, r4⟩ := hrf _ (ix_mem hlk)
      rw [drop_ix hlk, patchRefs] at hka
      generalize hri : ix o.refs k = r at *
      obtain ⟨v, hv⟩ : ∃ v, v = (outerF s.nmap r.name).getD 0 := ⟨_, rfl⟩
      have hv2 : (Option.map (AV.int IntKind.i64) (outerF s.nmap r.name)).getD (AV.int IntKind.i64 0) = AV.int IntKind.i64 v := by
        rw [hv]; cases outerF s.nmap r.name <;> rfl
      have hvb : 0 ≤ v ∧ v ≤ 1000000000000 := by
        rw [hv]
        cases hz : outerF s.nmap r.name with
        | none => simp
        | some x => exact hp.names _ _ hz
      rw [← hv] at hka
      have hwv : IntKind.i64.wrap (v + r.plus) = v + r.plus := wrap64 (by omega) (by omega)
      have hwr : IntKind.i64.wrap (a + r.at_) = a + r.at_ := wrap64 (by omega) (by omega)
      obtain ⟨c, hc⟩ : ∃ c : Nat, c = a + r.at_.toNat := ⟨_, rfl⟩
      have hci : (a : Int) + r.at_ = c := by omega
      have hcT : c + 4 ≤ T := by omega
      have hwc : IntKind.i64.wrap (c : Int) = c := wrap64 (by omega) (by omega)
      have hcT2 : c ≤ T := by omega
      rw [← hc] at hka
      have hcond2 : 0 ≤ (c : Int) ∧ (c : Int) ≤ T := ⟨by omega, by omega⟩
      have hb2 : c + (T - c) ≤ b.length := by omega
      have hmin : min 4 (T - c) = 4 := by omega
      have hf4 := four_row (v + r.plus)
      have hsp : (rowB b).take c ++ (rowB (fourL (v + r.plus)) ++ (rowB b).drop (c + 4)) = rowB (splice b c (fourL (v + r.plus))) := by
        unfold rowB splice
        rw [List.map_append, List.map_append, List.map_take, List.map_drop, List.append_assoc]
        rfl
      have hspl : (splice b c (fourL (v + r.plus))).length = T := by rw [splice_len (by simp [fourL]; omega), hbl]
      rw [hf4] at hsp
      have hsp2 : (rowB b).take c ++ [AV.int .u8 (IntKind.u8.wrap ((v + r.plus).fdiv 16777216))] :: [AV.int .u8 (IntKind.u8.wrap ((v + r.plus).fdiv 65536))] :: [AV.int .u8 (IntKind.u8.wrap ((v + r.plus).fdiv 256))] :: [AV.int .u8 (IntKind.u8.wrap (v + r.plus))] :: (rowB b).drop (c + 4) = rowB (splice b c (fourL (v + r.plus))) := by
        rw [← hsp]
        have e : (v + r.plus).fdiv (2 ^ 0) = v + r.plus := by rw [show (2 : Int) ^ 0 = 1 from rfl, Int.fdiv_one]
        rw [e]
        rfl
      simp [h2, idxM, hri, lkObjs, lkCells, DRef.av, hv2, hwv, hwr, sliceA, boundsA, List.range_succ, IntKind.bits, u32_24, u32_16, u32_8, u32_0, hci, hwc, hcT2, srcOf, hb2, hmin, hbl, hwk]
      exact ⟨k + 1, splice b c (fourL (v + r.plus)), ⟨by omega, hspl, hka⟩, by omega, nz + 1 + 1, Sim.of_le (Env.le_of (by simp)) (Mem.le_of rfl (by simp [lkObjs, lkCells, hsp2]))⟩
    · have hkl : k = o.refs.length := by have := ltI_f.1 h2; omega
      rw [hkl, List.drop_length, patchRefs] at hka
      simp [h2, hw]
      exact ⟨i + 1, b, ⟨by omega, hbl, hka⟩, by omega, nz, Sim.of_le (Env.le_of (by simp)) (Mem.le_of rfl (by simp [lkObjs, lkCells]))⟩
  · have hil : i = s.objs.length := by have := ltI_f.1 h; omega
    rw [hil, List.drop_of_length_le (by omega), placeObjs] at hall
    subst hall
    have hbk := bytes_back C
    have htk : (rowB C).take T = rowB C := List.take_of_length_le (by simp; omega)
    simp [h, lkObjs, lkCells, hbl, htk, hbk]
    have hsd := hp.distinct
    have h57 := fun (m : Mem) (hm : m.obj (pre.length + 5) G.d = some (.row 40 2 (s.defs.map DDef.av))) => call57 m (pre.length + 5) G.d s.defs.length s.defs hm rfl hsd s2
    refine xcall_a (h57 _ (by simp)) ?_
    simp [cr29]
    exact ⟨⟨pre ++ lkDone pre.length base G s, ny⟩, Mem.le_of rfl (by simp [lkDone, hC]), _, rfl⟩
end Go.Pm
