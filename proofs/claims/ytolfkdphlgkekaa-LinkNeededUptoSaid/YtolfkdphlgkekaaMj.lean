/- LkC33: contracts: large answers something; awake. -/
import Derived.Test.YtolfkdphlgkekaaMi
import Derived.Test.YtolfkdphlgkekaaLkC26
namespace Go.Pm
open Go Go.Proofs
attribute [-simp] List.getElem?_map List.length_flatten

set_option maxHeartbeats 4000000 in
theorem call8 (l : List Deck) (libs : List (List Deck)) (hl : SmallL l) (hb : SmallLL libs) : PCalls Try.prog 8 [decksAV l, .list true 1 (libs.map libAV)] fun out => ∃ b, out = .ret (.bool b) := by
  refine ok8.pcalls (by simp [decksAV]) ?_
  have dl := hl.len
  have bl := hb.len
  have hc : (libs.length + 1) * 24 ≤ 140737488355328 ∧ libs.length + 1 ≤ 9223372036854775807 := ⟨by omega, by omega⟩
  have hc' : (1 + libs.length) * 24 ≤ 140737488355328 ∧ 1 + libs.length ≤ 9223372036854775807 := ⟨by omega, by omega⟩
  obtain ⟨L, hL⟩ : ∃ L, L = l :: libs := ⟨_, rfl⟩
  have hLl : L.length = libs.length + 1 := by rw [hL]; rfl
  have hsm : ∀ x ∈ L, SmallL x := by
    intro x hx
    rw [hL] at hx
    rcases List.mem_cons.1 hx with rfl | hx
    · exact hl
    · exact hb.each x hx
  simp [c8, decksAV, appendA, hc, hc', List.range_succ]
  refine br_cond rfl (fun h => ?_) (fun h => ?_)
  · simp [cr8]
  simp
  refine wpS_loopS (ι := (Nat × Int) × Nat) (fun u => [(5, .int .i64 u.1.2), (6, .row 0 1 1 0 L.length), (7, .int .i64 u.1.1)]) (fun u => ⟨[(1, .row 22 1 (L.map libAV))], u.2⟩) (fun u => L.length - u.1.1) (fun u => u.1.1 ≤ L.length) ((0, 0), 2) (Nat.zero_le _) ?_ ?_
  · exact Sim.of_le (Env.le_of (by simp [hLl, Nat.add_comm])) (Mem.le_of rfl (by simp [hL, libAV, decksAV]))
  intro ⟨⟨i, s⟩, nx⟩ hi
  simp only at hi
  have hw : IntKind.i64.wrap (i + 1) = i + 1 := wrap64 (by omega) (by omega)
  simp
  refine br_cond rfl (fun h1 => ?_) (fun h1 => ?_)
  · have hlt : i < L.length := by have := ltI_t.1 h1; omega
    have hx := hsm _ (ix_mem hlt)
    have hxl := hx.len
    generalize hxx : ix L i = x at *
    simp [h1]
    refine wpS_loopS (ι := (Nat × Int) × Nat) (fun u => [(5, .int .i64 u.1.2), (6, .row 0 1 1 0 L.length), (7, .int .i64 i), (8, .int .i64 u.1.1)]) (fun u => ⟨[(1, .row 22 1 (L.map libAV))], u.2⟩) (fun u => x.length - u.1.1) (fun u => u.1.1 ≤ x.length) ((0, s), nx) (Nat.zero_le _) (Sim.of_le (Env.le_of (by simp)) (Mem.le_of rfl (by simp))) ?_
    intro ⟨⟨j, s⟩, ny⟩ hj
    simp only at hj
    have hwj : IntKind.i64.wrap (j + 1) = j + 1 := wrap64 (by omega) (by omega)
    simp [h1, idxM, hxx, libAV, decksAV]

    refine br_cond rfl (fun h2 => ?_) (fun h2 => ?_)
    · have hlj : j < x.length := by have := ltI_t.1 h2; omega
      generalize hox : ix x j = o at *
      simp [h1, h2, idxM, hxx, hox, libAV, decksAV, Deck.av]
      refine br_cond rfl (fun h3 => ?_) (fun h3 => ?_)
      · simp [hwj]
        exact ⟨j + 1, by omega, by omega, IntKind.i64.wrap (IntKind.i64.wrap (s + IntKind.i64.wrap (IntKind.i64.wrap (20 + (o.name.size : Int)) + IntKind.i64.wrap (10 * IntKind.i64.wrap (IntKind.i64.wrap ((o.defs.length : Int) + (o.refs.length : Int)) + (o.lines.length : Int))))) + (o.code.size : Int)), ny + 1, Sim.of_le (Env.le_of (by simp)) (Mem.le_of rfl (by simp))⟩
      · simp [hwj]
        exact ⟨j + 1, by omega, by omega, IntKind.i64.wrap (s + IntKind.i64.wrap (IntKind.i64.wrap (20 + (o.name.size : Int)) + IntKind.i64.wrap (10 * IntKind.i64.wrap (IntKind.i64.wrap ((o.defs.length : Int) + (o.refs.length : Int)) + (o.lines.length : Int))))), ny + 1, Sim.of_le (Env.le_of (by simp)) (Mem.le_of rfl (by simp))⟩
    · simp [h2, hw]
      exact ⟨i + 1, by omega, by omega, s, ny, Sim.of_le (Env.le_of (by simp)) (Mem.le_of rfl (by simp))⟩
  · simp [h1, cr8]

theorem Wk.refl (x : AV) : Wk x x := fun _ _ _ _ h => h
theorem Wk.list {p : Bool} {sz : Nat} {els els' : List (List AV)} (hl : els'.length = els.length) (hc : ∀ (i : Nat) (c : List AV), els'[i]? = some c → ∃ c0 : List AV, els[i]? = some c0 ∧ c0.length = c.length ∧ ∀ (j : Nat) (x : AV), c[j]? = some x → ∃ y, c0[j]? = some y ∧ Wk y x) : Wk (.list p sz els) (.list p sz els') := by
  intro σ K w u h
  rw [VR] at h ⊢
  obtain ⟨a, cap, b, o, h1, h2, h3, h4⟩ := h
  refine ⟨a, cap, b, o, by rw [hl]; exact h1, by rw [hl]; exact h2, ?_, ?_⟩
  · rcases h3 with h3 | h3
    · left
      subst h3
      exact List.eq_nil_of_length_eq_zero hl
    · exact .inr h3
  · rw [LR_iff] at h4 ⊢
    intro i c hi
    obtain ⟨c0, e1, e2, e3⟩ := hc i c hi
    obtain ⟨h5, h6⟩ := h4 i c0 e1
    refine ⟨by omega, CR_iff.2 fun j x hj => ?_⟩
    obtain ⟨y, hy, hw⟩ := e3 j x hj
    obtain ⟨v, hv1, hv2, hv3⟩ := CR_iff.1 h6 j y hy
    exact ⟨v, hv1, hv2, hw _ _ _ _ hv3⟩
theorem Sub.wk {x y : AV} {xs ys : List AV} (hw : Wk x y) (h : Sub xs ys) : Sub (x :: xs) (y :: ys) := by
  intro K w us hv
  obtain ⟨u, us', rfl, h1, h2⟩ := hv
  exact ⟨u, us', rfl, hw _ _ _ _ h1, h K w us' h2⟩

/-- The two objects that awake links. -/
def awake1 : Deck := ⟨⟨#[65]⟩, ⟨#[97, 98, 99, 100, 101, 102]⟩, [], [], []⟩
def awake2 : Deck := ⟨⟨#[66]⟩, ⟨#[119, 120, 121, 122]⟩, [], [], []⟩
def awakeV (n c : ByteArray) : List AV := [.str n, .str c, .nilS, .nilS, .nilS]
theorem awake_wk : Wk (.list false 5 [awakeV awake1.name awake1.code, awakeV awake2.name awake2.code]) (.list false 5 ([awake1, awake2].map Deck.av)) := by
  have one : ∀ n c : ByteArray, ∀ (j : Nat) (x : AV), (Deck.av ⟨n, c, [], [], []⟩)[j]? = some x → ∃ y, (awakeV n c)[j]? = some y ∧ Wk y x := by
    intro n c j x hj
    match j with
    | 0 => injection hj with hj; subst hj; exact ⟨_, rfl, Wk.refl _⟩
    | 1 => injection hj with hj; subst hj; exact ⟨_, rfl, Wk.refl _⟩
    | 2 => injection hj with hj; subst hj; exact ⟨_, rfl, Wk.nil⟩
    | 3 => injection hj with hj; subst hj; exact ⟨_, rfl, Wk.nil⟩
    | 4 => injection hj with hj; subst hj; exact ⟨_, rfl, Wk.nil⟩
    | n + 5 => simp [Deck.av] at hj
  refine Wk.list rfl fun i c hi => ?_
  match i with
  | 0 => injection hi with hi; subst hi; exact ⟨_, rfl, rfl, one _ _⟩
  | 1 => injection hi with hi; subst hi; exact ⟨_, rfl, rfl, one _ _⟩
  | n + 2 => simp at hi

def awakeImg : Img := ⟨16, ⟨#[97, 98, 99, 100, 101, 102, 0, 0, 119, 120, 121, 122]⟩, [⟨⟨#[65]⟩, 16⟩, ⟨⟨#[66]⟩, 24⟩], [], [⟨⟨#[65]⟩, 16⟩, ⟨⟨#[66]⟩, 24⟩]⟩
theorem awake_is : linkL [awake1, awake2] [] 16 = .good awakeImg := by kernel_rfl

theorem awake_small : SmallL [awake1, awake2] := by
  refine ⟨by simp, fun o ho => ?_⟩
  have h : ∀ n c : ByteArray, n.size ≤ 1048576 → c.size ≤ 1048576 → Deck.Small ⟨n, c, [], [], []⟩ := fun n c h1 h2 => ⟨h1, h2, by simp, by simp, by simp, by simp, by simp⟩
  simp only [List.mem_cons, List.not_mem_nil, or_false] at ho
  rcases ho with rfl | rfl
  · exact h _ _ (by decide) (by decide)
  · exact h _ _ (by decide) (by decide)

set_option maxHeartbeats 4000000 in
theorem call7 : PCalls Try.prog 7 [] fun out => out = .ret (.bool true) := by
  refine ok7.pcalls (by simp) ?_
  have h9 := call9 false true [awake1, awake2] [] 16 awake_small ⟨by simp, by simp⟩ (by simp) (by simp)
  rw [awake_is] at h9
  have h9' := PCalls.sub h9 (Sub.wk awake_wk (Sub.nil (Sub.refl _)))
  simp [c7, List.range_succ]
  refine xcall_p h9' (by simp [awake1, awake2, awakeV, List.range_succ]) ?_
  have e1 : ∀ n : Int, eqI n n = true := fun n => eqI_t.2 rfl
  have e2 : ∀ n : ByteArray, eqS n n = true := fun n => eqS_t.2 rfl
  simp [awakeImg, LRes.av, Img.av, DDef.av, cr7, e1, e2]
end Go.Pm

/- LkC34: what moving an image changes. -/
namespace Go.Pm
open Go Go.Proofs
attribute [-simp] List.getElem?_map List.length_flatten

/-! A number of four bytes. -/
theorem orF_nat {a b : Nat} (ha : a < 4294967296) (hb : b < 4294967296) : orF a b = ((a ||| b : Nat) : Int) := by
  have h := Nat.or_lt_two_pow (n := 32) (x := a) (y := b) (by omega) (by omega)
  unfold orF
  rw [BitVec.toNat_or, BitVec.ofInt_natCast, BitVec.ofInt_natCast, BitVec.toNat_ofNat, BitVec.toNat_ofNat, Nat.mod_eq_of_lt (by omega), Nat.mod_eq_of_lt (by omega)]
  exact wrap64 (by omega) (by omega)
theorem or_add (a b k q : Nat) (hq : q = 2 ^ k) (h : b < q) : a * q ||| b = a * q + b := by
  subst hq
  rw [← Nat.shiftLeft_eq]
  exact (Nat.shiftLeft_add_eq_or_of_lt h a).symm
theorem numF_sum (s : ByteArray) : numF s = (((byteAt s 0).toNat * 16777216 + (byteAt s 1).toNat * 65536 + (byteAt s 2).toNat * 256 + (byteAt s 3).toNat : Nat) : Int) := by
  have h0 := (byteAt s 0).toNat_lt
  have h1 := (byteAt s 1).toNat_lt
  have h2 := (byteAt s 2).toNat_lt
  have h3 := (byteAt s 3).toNat_lt
  have sh : ∀ i k : Nat, ∀ q : Nat, q = 2 ^ k → q ≤ 16777216 → shF s i k = (((byteAt s i).toNat * q : Nat) : Int) := by
    intro i k q hq hle
    have hb := (byteAt s i).toNat_lt
    unfold shF
    have e : ((byteAt s i).toNat : Int) * 2 ^ k = (((byteAt s i).toNat * q : Nat) : Int) := by rw [hq]; simp
    rw [e]
    have : (byteAt s i).toNat * q ≤ 256 * 16777216 := Nat.mul_le_mul (by omega) hle
    exact wrap64 (by omega) (by omega)
  unfold numF
  rw [sh 0 24 16777216 rfl (by omega), sh 1 16 65536 rfl (by omega), sh 2 8 256 rfl (by omega)]
  generalize (byteAt s 0).toNat = a at *
  generalize (byteAt s 1).toNat = b at *
  generalize (byteAt s 2).toNat = c at *
  generalize (byteAt s 3).toNat = d at *
  rw [orF_nat (by omega) (by omega)]
  rw [or_add a (b * 65536) 24 16777216 rfl (by omega), orF_nat (by omega) (by omega)]
  rw [show a * 16777216 + b * 65536 = (a * 256 + b) * 65536 by omega, or_add (a * 256 + b) (c * 256) 16 65536 rfl (by omega), orF_nat (by omega) (by omega)]
  rw [show (a * 256 + b) * 65536 + c * 256 = (a * 65536 + b * 256 + c) * 256 by omega, or_add _ d 8 256 rfl (by omega)]
theorem numF_bounds (s : ByteArray) : 0 ≤ numF s ∧ numF s < 4294967296 := by
  have h0 := (byteAt s 0).toNat_lt
  have h1 := (byteAt s 1).toNat_lt
  have h2 := (byteAt s 2).toNat_lt
  have h3 := (byteAt s 3).toNat_lt
  rw [numF_sum]
  omega
theorem byteF_val (n : Int) (k : Nat) (q : Int) (hq : q = 2 ^ k) (h0 : 0 < q) : ((byteF n k).toNat : Int) = n / q % 256 := by
  unfold byteF
  rw [← hq, u8_wrap, Int.fdiv_eq_ediv_of_nonneg _ (by omega)]
  have h0 : 0 ≤ n / q % 256 := Int.emod_nonneg _ (by omega)
  have h1 : n / q % 256 < 256 := Int.emod_lt_of_pos _ (by omega)
  rw [UInt8.toNat_ofNat']
  omega
theorem numF_four (n : Int) : numF ⟨(fourL n).toArray⟩ = n % 4294967296 := by
  rw [numF_sum]
  have b0 := byteF_val n 24 16777216 rfl (by omega)
  have b1 := byteF_val n 16 65536 rfl (by omega)
  have b2 := byteF_val n 8 256 rfl (by omega)
  have b3 := byteF_val n 0 1 rfl (by omega)
  have e0 : byteAt ⟨(fourL n).toArray⟩ 0 = byteF n 24 := rfl
  have e1 : byteAt ⟨(fourL n).toArray⟩ 1 = byteF n 16 := rfl
  have e2 : byteAt ⟨(fourL n).toArray⟩ 2 = byteF n 8 := rfl
  have e3 : byteAt ⟨(fourL n).toArray⟩ 3 = byteF n 0 := rfl
  rw [e0, e1, e2, e3]
  omega

/-! Bytes by fours. -/
def R4 (δ : Int) (x y : List UInt8) : Prop := x = y ∨ ∃ v, x = fourL v ∧ y = fourL (v + δ)
structure Q4 (δ : Int) (a b : List UInt8) : Prop where
  len : a.length = b.length
  each : ∀ k, R4 δ ((a.drop (4 * k)).take 4) ((b.drop (4 * k)).take 4)
theorem Q4.refl (δ : Int) (a : List UInt8) : Q4 δ a a := ⟨rfl, fun _ => .inl rfl⟩
theorem Q4.zeros {δ : Int} {a b : List UInt8} (h : Q4 δ a b) (z : List UInt8) : Q4 δ (a ++ z) (b ++ z) := by
  obtain ⟨hl, he⟩ := h
  refine ⟨by simp [hl], fun k => ?_⟩
  rcases Nat.lt_or_ge a.length (4 * k) with h1 | h1
  · left
    have ha : a.drop (4 * k) = [] := List.drop_eq_nil_of_le (by omega)
    have hb : b.drop (4 * k) = [] := List.drop_eq_nil_of_le (by omega)
    rw [List.drop_append, List.drop_append, ha, hb, hl]
  · rw [List.drop_append_of_le_length h1, List.drop_append_of_le_length (by omega)]
    rcases Nat.lt_or_ge a.length (4 * k + 4) with h2 | h2
    · left
      have h3 : a.drop (4 * k) = b.drop (4 * k) := by
        have hk := he k
        rw [List.take_of_length_le (by simp; omega), List.take_of_length_le (by simp; omega)] at hk
        rcases hk with hk | ⟨v, hv, _⟩
        · exact hk
        · have := congrArg List.length hv
          simp [fourL] at this
          omega
      rw [h3]
    · rw [List.take_append_of_le_length (by simp; omega), List.take_append_of_le_length (by simp; omega)]
      exact he k
theorem Q4.append {δ : Int} {a b a' b' : List UInt8} (h : Q4 δ a b) (h' : Q4 δ a' b') (h4 : a.length % 4 = 0) : Q4 δ (a ++ a') (b ++ b') := by
  obtain ⟨hl, he⟩ := h
  obtain ⟨hl', he'⟩ := h'
  refine ⟨by simp [hl, hl'], fun k => ?_⟩
  rcases Nat.lt_or_ge (4 * k) a.length with h1 | h1
  · rw [List.drop_append_of_le_length (by omega), List.drop_append_of_le_length (by omega), List.take_append_of_le_length (by simp; omega), List.take_append_of_le_length (by simp; omega)]
    exact he k
  · have e : 4 * k - a.length = 4 * (k - a.length / 4) := by omega
    have ha : a.drop (4 * k) = [] := List.drop_eq_nil_of_le (by omega)
    have hb : b.drop (4 * k) = [] := List.drop_eq_nil_of_le (by omega)
    rw [List.drop_append, List.drop_append, ha, hb, ← hl, List.nil_append, List.nil_append, e]
    exact he' _
theorem drop_splice {a s : List UInt8} {p k : Nat} (hp : p % 4 = 0) (hs : s.length = 4) (hle : p + 4 ≤ a.length) : ((splice a p s).drop (4 * k)).take 4 = if 4 * k = p then s else (a.drop (4 * k)).take 4 := by
  apply List.ext_getElem?
  intro i
  have hlen := splice_len (b := a) (s := s) (n := p) (by omega)
  have hget : ∀ j, (splice a p s)[j]? = if j < p then a[j]? else if j < p + 4 then s[j - p]? else a[j]? := by
    intro j
    unfold splice
    rw [List.append_assoc]
    split
    · rename_i h
      rw [List.getElem?_append_left (by simp; omega), List.getElem?_take, if_pos h]
    · rename_i h
      rw [List.getElem?_append_right (by simp; omega), List.length_take, Nat.min_eq_left (by omega)]
      split
      · rw [List.getElem?_append_left (by omega)]
      · rw [List.getElem?_append_right (by omega), List.getElem?_drop, hs]
        congr 1; omega
  by_cases hk : 4 * k = p
  · rw [if_pos hk, List.getElem?_take, List.getElem?_drop, hget]
    by_cases hi : i < 4
    · rw [if_pos hi, if_neg (by omega), if_pos (by omega), show 4 * k + i - p = i by omega]
    · rw [if_neg hi, List.getElem?_eq_none (by omega)]
  · rw [if_neg hk, List.getElem?_take, List.getElem?_take, List.getElem?_drop, List.getElem?_drop, hget]
    by_cases hi : i < 4
    · rw [if_pos hi, if_pos hi]
      by_cases h1 : 4 * k + i < p
      · rw [if_pos h1]
      · rw [if_neg h1, if_neg (by omega)]
    · rw [if_neg hi, if_neg hi]
theorem Q4.splice {δ : Int} {a b : List UInt8} (h : Q4 δ a b) {p : Nat} {v v' : Int} (hp : p % 4 = 0) (hle : p + 4 ≤ a.length) (hv : v' = v ∨ v' = v + δ) : Q4 δ (splice a p (fourL v)) (splice b p (fourL v')) := by
  obtain ⟨hl, he⟩ := h
  refine ⟨by rw [splice_len (by simp [fourL]; omega), splice_len (by simp [fourL]; omega), hl], fun k => ?_⟩
  rw [drop_splice hp rfl hle, drop_splice hp rfl (by omega)]
  split
  · rcases hv with rfl | rfl
    · exact .inl rfl
    · exact .inr ⟨v, rfl, rfl⟩
  · exact he k
theorem Q4.patch {δ : Int} {nm nm' : List DDef} (hn : ∀ n, outerF nm' n = (outerF nm n).map (· + δ)) : ∀ {rs : List DRef} {a b : List UInt8}, Q4 δ a b → (∀ r ∈ rs, r.at_.toNat % 4 = 0 ∧ r.at_.toNat + 4 ≤ a.length) → Q4 δ (patchRefs nm 0 rs a) (patchRefs nm' 0 rs b)
  | [], a, b, h, _ => h
  | r :: rs, a, b, h, hr => by
    obtain ⟨h1, h2⟩ := hr r List.mem_cons_self
    rw [patchRefs, patchRefs, Nat.zero_add]
    refine Q4.patch hn (h.splice h1 h2 ?_) fun x hx => ?_
    · rw [hn]
      cases outerF nm r.name with
      | none => exact .inl rfl
      | some v => right; simp only [Option.map_some, Option.getD_some]; omega
    · rw [splice_len (by simp [fourL]; omega)]
      exact hr x (List.mem_cons_of_mem _ hx)

theorem deckOk_refs {o : Deck} (h : deckOk o = true) : ∀ r ∈ o.refs, r.at_.toNat % 4 = 0 ∧ r.at_.toNat + 4 ≤ o.code.size := by
  unfold deckOk at h
  simp only [Bool.and_eq_true] at h
  obtain ⟨⟨_, h3⟩, _⟩ := h
  rw [List.all_eq_true] at h3
  intro r hr
  obtain ⟨i, hi, rfl⟩ := ix_of_mem hr
  have := h3 i (List.mem_range.2 hi)
  unfold refOk at this
  simp only [Bool.and_eq_true] at this
  obtain ⟨⟨⟨⟨_, a⟩, b⟩, _⟩, _⟩ := this
  have a := withinF_t a
  have b := eqI_t.1 b
  rw [Int.tmod_eq_emod_of_nonneg a.1] at b
  omega
theorem allK_moved {δ : Int} {nm nm' : List DDef} (hn : ∀ n, outerF nm' n = (outerF nm n).map (· + δ)) (g : List Deck) (hg : ∀ o ∈ g, deckOk o = true) : Q4 δ (allK nm g) (allK nm' g) := by
  revert hg
  refine snoc_ind (P := fun g => (∀ o ∈ g, deckOk o = true) → Q4 δ (allK nm g) (allK nm' g)) ?_ ?_ g
  · intro _; exact Q4.refl _ _
  · intro g o ih hg
    have h := ih fun x hx => hg x (List.mem_append_left _ hx)
    have ho := hg o (by simp)
    rw [allK_snoc, allK_snoc, stepK, stepK, ← h.len]
    refine (h.zeros _).append ?_ ?_
    · exact Q4.patch hn (Q4.refl _ _) (by simpa using deckOk_refs ho)
    · rw [List.length_append, List.length_replicate, padN]; omega

/-! The state at another base. -/
theorem outer_shift (δ : Int) (n : ByteArray) : ∀ l : List DDef, outerF (l.map (shD δ)) n = (outerF l n).map (· + δ)
  | [] => rfl
  | d :: l => by
    have ih := outer_shift δ n l
    unfold outerF at ih ⊢
    rw [List.map_cons, List.find?_cons, List.find?_cons]
    show Option.map _ (match eqS d.name n with | true => _ | false => _) = _
    cases eqS d.name n with
    | true => simp only [shD, Option.map_some]; congr 1; omega
    | false => exact ih
structure Shift (δ : Int) (s s' : LSt) : Prop where
  end_ : s'.end_ = s.end_ + δ
  places : s'.places = s.places.map (shD δ)
  defs : s'.defs = s.defs.map (shD δ)
theorem shift_all (b δ : Int) (h0 : 0 ≤ b) (h1 : b ≤ 65536) (h8 : b % 8 = 0) (h0' : 0 ≤ b + δ) (h1' : b + δ ≤ 65536) (h8' : (b + δ) % 8 = 0) (g : List Deck) (hf : ∀ o ∈ g, DeckFine o) (hl : g.length ≤ 2000000) : Shift δ (stF b g) (stF (b + δ) g) := by
  revert hf hl
  refine snoc_ind (P := fun g => (∀ o ∈ g, DeckFine o) → g.length ≤ 2000000 → Shift δ (stF b g) (stF (b + δ) g)) ?_ ?_ g
  · intro _ _; exact ⟨rfl, rfl, rfl⟩
  · intro g o ih hf hl
    rw [List.length_append, List.length_singleton] at hl
    have hfg : ∀ x ∈ g, DeckFine x := fun x hx => hf x (List.mem_append_left _ hx)
    have h := ih hfg (by omega)
    have ho := hf o (by simp)
    have g1 := (both b h0 h1 h8 g hfg (by omega)).good
    have g2 := (both (b + δ) h0' h1' h8' g hfg (by omega)).good
    obtain ⟨_, _, e3, _, e5, _⟩ := putL_same (putL_false (stF b g) o)
    obtain ⟨_, _, f3, _, f5, _⟩ := putL_same (putL_false (stF (b + δ) g) o)
    have hup : upF (stF (b + δ) g).end_ = upF (stF b g).end_ + δ := by
      rw [h.end_, upF, upF]; omega
    rw [stF_snoc, stF_snoc]
    refine ⟨by rw [e5, f5, hup]; omega, by rw [e3, f3, h.places, hup]; simp [shD, Int.add_comm], ?_⟩
    rw [putNF_defs ho.names, putNF_defs ho.names, h.defs, hup, List.map_append, List.map_map]
    congr 1
    have hfil : (fun d : DDef => !(outerF (stF (b + δ) g).nmap d.name).isSome) = fun d => !(outerF (stF b g).nmap d.name).isSome := by
      funext d
      rw [g1.same, g2.same, h.defs, outer_shift, Option.isSome_map]
    rw [hfil]
    refine List.map_congr_left fun d _ => ?_
    simp only [shD, Function.comp_apply]
    congr 1; omega

/-- An image and the same at another base. -/
structure Moved (w m : Img) (δ : Int) : Prop where
  code : m.code.size = w.code.size
  names : m.names.length = w.names.length
  at_ : ∀ i, i < w.names.length → (ix m.names i).at_ - (ix w.names i).at_ = δ
  num : ∀ k, 4 * k + 4 ≤ w.code.size → numF (w.code.extract (4 * k) (4 * k + 4)) = numF (m.code.extract (4 * k) (4 * k + 4)) ∨ IntKind.u32.wrap (numF (m.code.extract (4 * k) (4 * k + 4)) - numF (w.code.extract (4 * k) (4 * k + 4))) = IntKind.u32.wrap δ
theorem extract_list (c : List UInt8) (k : Nat) : (⟨c.toArray⟩ : ByteArray).extract (4 * k) (4 * k + 4) = ⟨((c.drop (4 * k)).take 4).toArray⟩ := by
  apply ByteArray.ext
  rw [ByteArray.data_extract]
  simp
theorem moved {l : List Deck} {libs : List (List Deck)} {base to_ : Int} {w m : Img} (hl : SmallL l) (hb : SmallLL libs) (hsum : l.length + libs.flatten.length ≤ 2000000) (hw : linkL l libs base = .good w) (hm : linkL l libs to_ = .good m) : Moved w m (to_ - base) := by
  obtain ⟨g, hg⟩ := linkL_gath hl hb hsum hw
  obtain ⟨g', hg'⟩ := linkL_gath hl hb hsum hm
  have hgg : g' = g := by
    have := hg.gath.symm.trans hg'.gath
    injection this with h _
    exact h.symm
  subst hgg
  obtain ⟨b1, b2, b3⟩ := baseF_t hg.based
  obtain ⟨c1, c2, c3⟩ := baseF_t hg'.based
  have hfine : ∀ o ∈ g', DeckFine o := fun o ho => deck_fine (hg.fine o ho)
  have hs := shift_all base (to_ - base) b1 (by omega) b3 (by omega) (by omega) (by rw [show base + (to_ - base) = to_ by omega]; exact c3) g' hfine hg.len
  rw [show base + (to_ - base) = to_ by omega] at hs
  have B1 := both base b1 (by omega) b3 g' hfine hg.len
  have B2 := both to_ c1 (by omega) c3 g' hfine hg.len
  have hK : ∀ {b : Int} (_ : Both b g'), imageCode (stF b g') b = allK (stF b g').nmap g' := by
    intro b B
    unfold imageCode
    have he := B.end_
    rw [(got b g').objs, B.codeL _ _ (by omega)]
    rw [show ((stF b g').end_ - b).toNat - (rF b g').code.size = 0 by omega]
    simp
  have hnm : ∀ n, outerF (stF to_ g').nmap n = (outerF (stF base g').nmap n).map (· + (to_ - base)) := by
    intro n
    rw [B1.good.same, B2.good.same, hs.defs, outer_shift]
  have hq := allK_moved hnm g' fun o ho => (hg.fine o ho).2
  have hwc : w.code = ⟨(allK (stF base g').nmap g').toArray⟩ := by rw [hg.img, ← hK B1]; rfl
  have hmc : m.code = ⟨(allK (stF to_ g').nmap g').toArray⟩ := by rw [hg'.img, ← hK B2]; rfl
  have hwn : w.names = (stF base g').places := by rw [hg.img]; rfl
  have hmn : m.names = (stF to_ g').places := by rw [hg'.img]; rfl
  refine ⟨?_, by rw [hwn, hmn, hs.places, List.length_map], fun i hi => ?_, fun k hk => ?_⟩
  · rw [hwc, hmc]
    show (allK (stF to_ g').nmap g').toArray.size = (allK (stF base g').nmap g').toArray.size
    rw [List.size_toArray, List.size_toArray, hq.len]
  · rw [hwn] at hi
    rw [hwn, hmn, hs.places, ix_map hi, shD]
    simp only; omega
  · rw [hwc, hmc, extract_list, extract_list]
    rcases hq.each k with h | ⟨v, h1, h2⟩
    · left; rw [h]
    · right
      rw [h1, h2, numF_four, numF_four, u32_wrap, u32_wrap]
      omega
end Go.Pm

/- LkC35: the law LinkMoves answers true. -/
namespace Go.Pm
open Go Go.Proofs
attribute [-simp] List.getElem?_map List.length_flatten

theorem Wk.agg {cs cs' : List AV} (hl : cs'.length = cs.length) (h : ∀ (j : Nat) (x : AV), cs'[j]? = some x → ∃ y, cs[j]? = some y ∧ Wk y x) : Wk (.agg cs) (.agg cs') := by
  intro σ K w u hv
  rw [VR] at hv ⊢
  obtain ⟨us, h1, h2⟩ := hv
  refine ⟨us, h1, ?_⟩
  rw [VRs_iff] at h2 ⊢
  refine ⟨by rw [hl]; exact h2.1, fun j x hj => ?_⟩
  obtain ⟨y, hy, hw⟩ := h j x hj
  obtain ⟨v, hv1, hv2⟩ := h2.2 j y hy
  exact ⟨v, hv1, hw _ _ _ _ hv2⟩
theorem xcall_b {P : Program} {imp : List FuncId} {Q : Post} {e : Env} {m : Mem} {fs : List Fr} {l : List SOp} {d : List Nat} {dst : Option Nat} {f : FuncId} {xs ys : List AV} (h : PCalls P f ys fun out => ∃ b, out = .ret (.bool b)) (hx : tmpAs m xs = some ys)
    (hk : ∀ b, xops P imp l d fs Q (e.put dst (.bool b)) m) : xcall P imp f xs dst l d fs Q e m := by
  refine ⟨_, h.acalls hx, ?_⟩
  rintro out m' ⟨⟨b, rfl⟩, rfl⟩
  exact (hk b).out
def imgNone : Img := ⟨0, ⟨#[]⟩, [], [], []⟩
theorem none_wk : Wk (.agg img0) (.agg imgNone.av) := by
  refine Wk.agg rfl fun j x hj => ?_
  match j with
  | 0 => injection hj with hj; subst hj; exact ⟨_, rfl, Wk.refl _⟩
  | 1 => injection hj with hj; subst hj; exact ⟨_, rfl, Wk.refl _⟩
  | 2 => injection hj with hj; subst hj; exact ⟨_, rfl, Wk.nil⟩
  | 3 => injection hj with hj; subst hj; exact ⟨_, rfl, Wk.nil⟩
  | 4 => injection hj with hj; subst hj; exact ⟨_, rfl, Wk.nil⟩
  | n + 5 => simp [Img.av] at hj
theorem none_small : imgNone.Small := ⟨by decide, by simp [imgNone], by simp [imgNone], by simp [imgNone], by simp [imgNone], by simp [imgNone]⟩
theorem sameL_refl (x : Img) : sameL x x = true := by
  have e1 : ∀ n : Int, eqI n n = true := fun n => eqI_t.2 rfl
  have e2 : ∀ n : ByteArray, eqS n n = true := fun n => eqS_t.2 rfl
  have hd : ∀ l : List DDef, defsEq l l = true := fun l => by
    unfold defsEq
    rw [e1, Bool.true_and]
    exact all_t fun i _ => by simp [eqD, e1, e2]
  have hl : ∀ l : List DLine, linesEq l l = true := fun l => by
    unfold linesEq
    rw [e1, Bool.true_and]
    exact all_t fun i _ => by simp [eqL, e1]
  unfold sameL
  rw [e1, e2, hd, hl, hd]; rfl
theorem sameF_refl (x : Img) : sameF x x = true := by rw [sameF_sameL]; exact sameL_refl x

theorem ext_size {c : ByteArray} {n a : Nat} (h : c.size = n) (hle : a + 4 ≤ n) : 4 ≤ (c.extract a (a + 4)).size := by
  rw [ByteArray.size_extract, h, Nat.min_eq_left hle, Nat.add_sub_cancel_left]
  exact Nat.le_refl _

theorem diff_of {a b : Int} (h1 : 0 ≤ a ∧ a < 4294967296) (h2 : 0 ≤ b ∧ b < 4294967296) : IntKind.i64.wrap (b - a) = b - a := wrap64 (by omega) (by omega)
theorem numF_diff (X Y : ByteArray) : IntKind.i64.wrap (numF Y - numF X) = numF Y - numF X := diff_of (numF_bounds X) (numF_bounds Y)

set_option maxHeartbeats 8000000 in
theorem call3 (l : List Deck) (libs : List (List Deck)) (base to_ : Int) (hl : SmallL l) (hb : SmallLL libs) (hsum : l.length + libs.flatten.length ≤ 2000000) :
    PCalls Try.prog 3 [decksAV l, .list true 1 (libs.map libAV), .int .i64 base, .int .i64 to_] fun out => out = .ret (.bool true) := by
  refine ok3.pcalls (by simp [decksAV]) ?_
  simp [c3, decksAV]
  refine xcall_p call7 (by simp) ?_
  simp
  refine xcall_b (call8 l libs hl hb) (by simp [decksAV]) fun b => ?_
  cases b with
  | true => simp [cr3]
  | false =>
  simp
  refine xcall_p (call10 true l hl) (by simp) ?_
  simp [decksAV]
  refine xcall_p (call11 true libs hb) (by simp) ?_
  simp
  refine xcall_p (call9 true true l libs base hl hb hb.len hsum) (by simp) ?_
  have e0 : eqI 0 0 = true := rfl
  cases hw : linkL l libs base with
  | bad e n =>
    have he : eqI e 0 = false := eqI_f.2 (linkL_bad hw)
    simp [LRes.av, img0, he, cr3]
  | good w =>
  have hws := linkL_small hl hb hsum hw
  obtain ⟨g, hg⟩ := linkL_gath hl hb hsum hw
  have hwb : w.base = base := by rw [hg.img]; rfl
  have hmv : ∀ t, moveL w l libs t = linkL l libs t := by
    intro t
    unfold moveL
    rw [hwb, hw]
    simp only
    rw [if_pos (sameL_refl w)]
  simp [LRes.av, Img.av, e0]
  refine xcall_p (call13 w hws) (by simp [Img.av]) ?_
  simp
  refine xcall_p (call10 true l hl) (by simp) ?_
  simp [decksAV]
  refine xcall_p (call11 true libs hb) (by simp) ?_
  simp
  refine xcall_p (call12 true true w l libs to_ hl hb hb.len hsum) (by simp [Img.av]) ?_
  rw [hmv]
  cases hm : linkL l libs to_ with
  | bad e n =>
    have he : eqI e 0 = false := eqI_f.2 (linkL_bad hm)
    have hee : eqI e e = true := eqI_t.2 rfl
    have h14 := call14 true true w l libs to_ hl hb hsum (linkL_fine hl hb hsum hw) hws
    rw [hmv, hm] at h14
    simp [LRes.avE, img0, Img.av]
    refine xcall_p h14 (by simp [Img.av]) ?_
    simp [LRes.avE, img0, Img.av]
    have h15 := PCalls.sub (call15 imgNone imgNone none_small none_small) (Sub.wk none_wk (Sub.wk none_wk (Sub.refl _)))
    rw [sameF_refl] at h15
    refine xcall_p h15 (by simp [img0]) ?_
    simp [hee, he, cr3]
  | good m =>
  have hms := linkL_small hl hb hsum hm
  have h14 := call14 true true w l libs to_ hl hb hsum (linkL_fine hl hb hsum hw) hws
  rw [hmv, hm] at h14
  simp [LRes.avE, Img.av]
  refine xcall_p h14 (by simp [Img.av]) ?_
  simp [LRes.avE, Img.av]
  have h15 := call15 m m hms hms
  rw [sameF_refl] at h15
  refine xcall_p h15 (by simp [Img.av]) ?_
  have mv := moved hl hb hsum hw hm
  have e1 : ∀ n : Int, eqI n n = true := fun n => eqI_t.2 rfl
  have hwc := hws.code
  have hwn := hws.names
  have hbb : 0 ≤ base ∧ base ≤ 65528 := by have := baseF_t hg.based; omega
  obtain ⟨g', hg'⟩ := linkL_gath hl hb hsum hm
  have htt : 0 ≤ to_ ∧ to_ ≤ 65528 := by have := baseF_t hg'.based; omega
  have hwd : IntKind.i64.wrap (to_ - base) = to_ - base := wrap64 (by omega) (by omega)
  simp [e0, mv.code, mv.names, e1]
  refine wpS_loopS (ι := Nat) (fun i => [(0, .list true 5 (l.map Deck.av)), (1, .list true 1 (libs.map libAV)), (2, .int .i64 base), (3, .int .i64 to_), (9, .ptr 0 0 0), (12, .ptr 1 1 0), (15, .int .i64 i)]) (fun _ => ⟨[(0, .cells w.av), (1, .cells m.av)], 3⟩) (fun i => w.names.length - i) (fun i => i ≤ w.names.length) 0 (Nat.zero_le _) (Sim.of_le (Env.le_of (by simp)) (Mem.le_of rfl (by simp [Img.av]))) ?_
  intro i hi
  have hwi : IntKind.i64.wrap (i + 1) = i + 1 := wrap64 (by omega) (by omega)
  simp [Img.av]
  refine br_cond rfl (fun h => ?_) (fun h => ?_)
  · have hlt : i < w.names.length := by have := ltI_t.1 h; omega
    have h2 : ltI ↑i ↑m.names.length = true := ltN (by rw [mv.names]; exact hlt)
    have hat := mv.at_ i hlt
    simp [h, h2, idxM, DDef.av, hat, hwd, e1, hwi]
    exact ⟨i + 1, by omega, by omega, Sim.of_le (Env.le_of (by simp)) (Mem.le_of rfl (by simp))⟩
  simp [h]
  refine wpS_loopS (ι := Nat) (fun k => [(0, .list true 5 (l.map Deck.av)), (1, .list true 1 (libs.map libAV)), (2, .int .i64 base), (3, .int .i64 to_), (9, .ptr 0 0 0), (12, .ptr 1 1 0), (16, .int .i64 (4 * (k : Int)))]) (fun _ => ⟨[(0, .cells w.av), (1, .cells m.av)], 3⟩) (fun k => w.code.size - 4 * k) (fun k => 4 * k ≤ w.code.size) 0 (Nat.zero_le _) (Sim.of_le (Env.le_of (by simp)) (Mem.le_of rfl (by simp [Img.av]))) ?_
  intro k hk
  have hw4 : IntKind.i64.wrap (4 * (k : Int) + 4) = 4 * (k : Int) + 4 := wrap64 (by omega) (by omega)
  simp [Img.av, hw4]
  refine br_cond rfl (fun h3 => ?_) (fun h3 => ?_)
  · have hle : 4 * k + 4 ≤ w.code.size := by have := leI_t.1 h3; omega
    have hmc := mv.code
    have hsl : ∀ c : ByteArray, c.size = w.code.size → sliceA true true 0 [.str c, .int .i64 (4 * (k : Int)), .int .i64 (4 * (k : Int) + 4)] = some (.str (c.extract (4 * k) (4 * k + 4))) := by
      intro c hc
      have t1 : (4 * (k : Int)).toNat = 4 * k := by omega
      have t2 : (4 * (k : Int) + 4).toNat = 4 * k + 4 := by omega
      simp [sliceA, boundsA, t1, t2]; omega
    have hs1 := hsl w.code rfl
    have hs2 := hsl m.code hmc
    have hnum := mv.num k hle
    have sz1 : 4 ≤ (w.code.extract (4 * k) (4 * k + 4)).size := ext_size rfl hle
    have sz2 : 4 ≤ (m.code.extract (4 * k) (4 * k + 4)).size := ext_size hmc hle
    generalize w.code.extract (4 * k) (4 * k + 4) = X at *
    generalize m.code.extract (4 * k) (4 * k + 4) = Y at *
    have hwyx := numF_diff X Y
    simp [hs1, hw4]
    refine xdcall_p rfl (call16 X sz1) (by simp) ?_
    simp [hs2, hw4]
    refine xdcall_p rfl (call16 Y sz2) (by simp) ?_
    simp
    cases hxy : eqI (numF X) (numF Y) with
    | true =>
      simp [hw4]
      exact ⟨k + 1, by omega, by omega, Sim.of_le (Env.le_of (by simp; omega)) (Mem.le_of rfl (by simp))⟩
    | false =>
      have hu : IntKind.u32.wrap (numF Y - numF X) = IntKind.u32.wrap (to_ - base) := by
        rcases hnum with h5 | h5
        · exact absurd h5 (eqI_f.1 hxy)
        · exact h5
      simp [hwyx, hwd, hu, e1, hw4]
      exact ⟨k + 1, by omega, by omega, Sim.of_le (Env.le_of (by simp; omega)) (Mem.le_of rfl (by simp))⟩
  · have hend := h3
    have hz : (⟨#[0, 0]⟩ : ByteArray).size = 2 := rfl
    have hcat : w.code.size + 2 ≤ 9223372036854775807 := by omega
    obtain ⟨w', hw'⟩ : ∃ w' : Img, w' = { w with code := w.code ++ ⟨#[0, 0]⟩ } := ⟨_, rfl⟩
    have hsz : (w.code ++ ⟨#[0, 0]⟩ : ByteArray).size = w.code.size + 2 := by rw [ByteArray.size_append]; rfl
    have hg1 := baseF_t hg.based
    have hlim : w.code.size ≤ 3000000000000 := by
      have h6 : ((w.code.size : Nat) : Int) = (stF base g).end_ - base := by
        have hgood := linkG_good hg
        rw [hg.img]
        show ((imageCode (stF base g) base).toArray.size : Int) = _
        rw [List.size_toArray, imageCode_len hgood]
        have := hgood.base1
        omega
      have := hg.end_
      omega
    have hws' : w'.Small := by
      rw [hw']
      exact ⟨by simp only [hsz]; omega, hws.defs, hws.lines, hws.names, hws.dname, hws.nname⟩
    have hbad : moveL w' l libs to_ = .bad 1 ⟨#[]⟩ := by
      have hb' : w'.base = base := by rw [hw']; exact hwb
      unfold moveL
      rw [hb', hw]
      simp only
      have hne : eqS w.code w'.code = false := by
        cases hx : eqS w.code w'.code with
        | false => rfl
        | true =>
          have := congrArg ByteArray.size (eqS_t.1 hx)
          rw [hw'] at this
          simp only [hsz] at this
          omega
      have : sameL w w' = false := by unfold sameL; rw [hne]; simp
      rw [this, if_neg (by simp)]
    have h12 := call12 true true w' l libs to_ hl hb hb.len hsum
    rw [hbad] at h12
    have hav : w'.av = [.int .i64 w.base, .str (w.code ++ ⟨#[0, 0]⟩), .list true 2 (w.defs.map DDef.av), .list true 2 (w.lines.map DLine.av), .list true 2 (w.names.map DDef.av)] := by rw [hw']; rfl
    have h13 := call13 w' hws'
    rw [hav] at h12 h13
    simp [h3, hz, hcat]
    refine xcall_p h13 (by simp) ?_
    simp
    refine xcall_p (call10 true l hl) (by simp) ?_
    simp [decksAV]
    refine xcall_p (call11 true libs hb) (by simp) ?_
    simp
    refine xcall_p h12 (by simp) ?_
    simp [LRes.avE, img0, e1, cr3]
end Go.Pm
