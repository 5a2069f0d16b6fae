/- BkA: the program of the built-in functions; what is known of its variables. -/
import Derived.Test.YtmcogjekcefjoaaGreatDoorProg
import Derived.KernelRfl
import Derived.Lib.LaidTab
import Derived.Lib.ItoaNum
import Derived.Test.YtmcogjekcefjoaaGreatDoorPmR
import Derived.Test.YtmcogjekcefjoaaGreatDoorPmS
namespace Go.Pm
open Go Go.Proofs
/-- Functions that write into what they are handed. -/
def Bk.imp : List Go.FuncId := []

theorem pow10_at : Tryz.prog.globalNamed "internal/strconv.uint64pow10" = some 3 := by kernel_rfl

/-- The powers of ten. -/
def Bk.ok (w : World) : Prop := Lib.TabIs Tryz.prog w "internal/strconv.uint64pow10" .u64 Lib.pow10Tab

theorem Bk.stable (w w' : World) (h : Bk.ok w) (hb : ∀ b, b < 8 → w'.heap[b]? = w.heap[b]?) : Bk.ok w' := by
  unfold Bk.ok Lib.TabIs World.var? at h ⊢
  rw [pow10_at] at h ⊢
  simp only [Option.bind_some] at h ⊢
  rw [hb 3 (by omega)]
  exact h

noncomputable def Bk.pg : Prg := { toProgram := Tryz.prog, ok := Bk.ok, blocks := fun b => b < 8, stable := Bk.stable }
end Go.Pm

/- BkD: lists by places; digits as values. -/
namespace Go.Pm
open Go Go.Proofs

def ix {α : Type} [Inhabited α] (l : List α) (i : Nat) : α := l.getD i default
theorem idx {α : Type} [Inhabited α] {l : List α} {i : Nat} (h : ltI ↑i ↑l.length = true) : l[i]? = some (ix l i) := by
  have h1 : i < l.length := by have := ltI_t.1 h; omega
  simp [ix, List.getD, h1]
theorem idxM {α β : Type} [Inhabited α] {f : α → β} {l : List α} {i : Nat} (h : ltI ↑i ↑l.length = true) : (l.map f)[i]? = some (f (ix l i)) := by
  rw [List.getElem?_map, idx h]; rfl
theorem ix_mem {α : Type} [Inhabited α] {l : List α} {i : Nat} (h : i < l.length) : ix l i ∈ l := by
  simp [ix, List.getD, h]
theorem eqS_r (a : ByteArray) : eqS a a = true := by simp [eqS]
theorem ltN {i n : Nat} (h : i < n) : ltI ↑i ↑n = true := ltI_t.2 (by omega)
theorem drop_ix {α : Type} [Inhabited α] {l : List α} {i : Nat} (h : i < l.length) : l.drop i = ix l i :: l.drop (i + 1) := by
  rw [List.drop_eq_getElem_cons h]
  simp [ix, List.getD, h]
theorem take_ix {α : Type} [Inhabited α] {l : List α} {i : Nat} (h : i < l.length) : l.take (i + 1) = l.take i ++ [ix l i] := by
  rw [List.take_add_one, idx (ltN h)]; rfl

/-- Digits, the lowest one first, as bytes. -/
def dl (l : List Nat) : List (List AV) := l.map fun (d : Nat) => [AV.int .u8 (d : Int)]
@[simp] theorem dl_len (l : List Nat) : (dl l).length = l.length := by simp [dl]
@[simp] theorem dl_perm : ∀ l : List Nat, permLL (dl l) = true
  | [] => rfl
  | d :: l => by simp only [dl, List.map_cons, permLL, permL, AV.perm, Bool.and_self, Bool.true_and]; exact dl_perm l
@[simp] theorem dl_noref : ∀ l : List Nat, norefLL (dl l) = true
  | [] => rfl
  | d :: l => by simp only [dl, List.map_cons, norefLL, norefL, AV.noref, Bool.and_self, Bool.true_and]; exact dl_noref l
theorem dl_app (a b : List Nat) : dl (a ++ b) = dl a ++ dl b := by simp [dl]
theorem dl_take (l : List Nat) (n : Nat) : (dl l).take n = dl (l.take n) := by simp [dl, List.map_take]
theorem dl_drop (l : List Nat) (n : Nat) : (dl l).drop n = dl (l.drop n) := by simp [dl, List.map_drop]
theorem dl_ix {l : List Nat} {i : Nat} (h : ltI ↑i ↑l.length = true) : (dl l)[i]? = some [AV.int .u8 ((ix l i : Nat) : Int)] := idxM (f := fun (d : Nat) => [AV.int .u8 (d : Int)]) h

theorem dl_set (l : List Nat) (i x : Nat) : (dl l).set i [AV.int .u8 (x : Int)] = dl (l.set i x) := by simp [dl, List.map_set]
theorem dl_setK (l : List Nat) {i : Nat} (h : i < l.length) (v : List AV) : ((dl l).set i v)[i]? = some v := by simp [h]
theorem drop_set {α : Type} (l : List α) (i : Nat) (x : α) : (l.set i x).drop (i + 1) = l.drop (i + 1) := by
  rw [List.drop_set, if_pos (by omega)]
theorem take_set {α : Type} {l : List α} {i : Nat} (h : i < l.length) (x : α) : (l.set i x).take (i + 1) = l.take i ++ [x] := by
  rw [List.take_add_one, List.take_set_of_le (by omega)]
  simp [h]

/-- A number's digits. -/
def digs (n : Nat) : List Nat := if h : n = 0 then [] else n % 10 :: digs (n / 10)
termination_by n
decreasing_by omega
theorem digs_zero : digs 0 = [] := by rw [digs]; rfl
theorem digs_pos {n : Nat} (h : 0 < n) : digs n = n % 10 :: digs (n / 10) := by rw [digs, dif_neg (by omega)]
/-- Zeros at the upper end are dropped. -/
def trimD : List Nat → List Nat
  | [] => []
  | d :: l => if trimD l = [] ∧ d = 0 then [] else d :: trimD l
theorem trimD_snoc0 : ∀ l : List Nat, trimD (l ++ [0]) = trimD l
  | [] => by simp [trimD]
  | d :: l => by simp only [List.cons_append, trimD, trimD_snoc0 l]
theorem trimD_snoc {x : Nat} (h : x ≠ 0) : ∀ l : List Nat, trimD (l ++ [x]) = l ++ [x]
  | [] => by simp [trimD, h]
  | d :: l => by
    have ih := trimD_snoc h l
    simp only [List.cons_append, trimD, ih]
    simp
theorem trimD_len : ∀ l : List Nat, (trimD l).length ≤ l.length
  | [] => Nat.le_refl _
  | d :: l => by
    have := trimD_len l
    unfold trimD
    split <;> simp <;> omega
/-- The number of digits. -/
def valD : List Nat → Nat
  | [] => 0
  | d :: l => d + 10 * valD l
theorem valD_trim : ∀ l : List Nat, valD (trimD l) = valD l
  | [] => rfl
  | d :: l => by
    have ih := valD_trim l
    unfold trimD
    split
    · rename_i h
      rw [h.1] at ih
      simp only [valD] at ih ⊢
      omega
    · simp only [valD, ih]
theorem valD_digs (n : Nat) : valD (digs n) = n := by
  induction n using Nat.strongRecOn with
  | ind n ih =>
    rcases Nat.eq_zero_or_pos n with rfl | h
    · rw [digs_zero]; rfl
    · rw [digs_pos h, valD, ih (n / 10) (by omega)]; omega
def Dg (l : List Nat) : Prop := ∀ d ∈ l, d < 10
theorem digs_dg (n : Nat) : Dg (digs n) := by
  induction n using Nat.strongRecOn with
  | ind n ih =>
    rcases Nat.eq_zero_or_pos n with rfl | h
    · rw [digs_zero]; intro d hd; simp at hd
    · rw [digs_pos h]
      intro d hd
      rcases List.mem_cons.1 hd with rfl | hd
      · omega
      · exact ih _ (by omega) d hd
theorem digs_len : ∀ (k n : Nat), n < 10 ^ k → (digs n).length ≤ k
  | 0, n, h => by have : n = 0 := by simpa using h
                  subst this; rw [digs_zero]; simp
  | k + 1, n, h => by
    rcases Nat.eq_zero_or_pos n with rfl | h0
    · rw [digs_zero]; simp
    · rw [digs_pos h0, List.length_cons]
      have := digs_len k (n / 10) (by rw [Nat.pow_succ] at h; omega)
      omega
theorem trimD_dg {l : List Nat} (h : Dg l) : Dg (trimD l) := by
  induction l with
  | nil => exact h
  | cons d l ih =>
    unfold trimD
    split
    · intro d hd; simp at hd
    · intro x hx
      rcases List.mem_cons.1 hx with rfl | hx
      · exact h x (by simp)
      · exact ih (fun y hy => h y (by simp [hy])) x hx

theorem trim_digs : ∀ {l : List Nat}, Dg l → trimD l = digs (valD l)
  | [], _ => by rw [valD, digs_zero]; rfl
  | d :: l, h => by
    have ih := trim_digs (l := l) fun x hx => h x (by simp [hx])
    have hd : d < 10 := h d (by simp)
    unfold trimD
    rw [ih, valD]
    by_cases h0 : d + 10 * valD l = 0
    · have e1 : valD l = 0 := by omega
      have e2 : d = 0 := by omega
      rw [if_pos ⟨by rw [e1, digs_zero], e2⟩, h0, digs_zero]
    · rw [if_neg, digs_pos (n := d + 10 * valD l) (by omega)]
      · have e1 : (d + 10 * valD l) % 10 = d := by omega
        have e2 : (d + 10 * valD l) / 10 = valD l := by omega
        rw [e1, e2]
      · rintro ⟨h1, h2⟩
        have : valD l = 0 := by rw [← valD_digs (valD l), h1]; rfl
        omega
theorem valD_app : ∀ a b : List Nat, valD (a ++ b) = valD a + 10 ^ a.length * valD b
  | [], b => by simp [valD]
  | d :: a, b => by
    rw [List.cons_append, valD, valD, valD_app a b, List.length_cons, Nat.pow_succ, Nat.mul_add, Nat.mul_comm (10 ^ a.length) 10, Nat.mul_assoc]
    omega
theorem valD_take {l : List Nat} {k : Nat} (h : k < l.length) : valD (l.take (k + 1)) = valD (l.take k) + ix l k * 10 ^ k := by
  have e : (l.take k).length = k := by rw [List.length_take]; omega
  rw [take_ix h, valD_app, e, valD, valD, Nat.mul_zero, Nat.add_zero, Nat.mul_comm]
theorem valD_zeros : ∀ n : Nat, valD (List.replicate n 0) = 0
  | 0 => rfl
  | n + 1 => by rw [List.replicate_succ, valD, valD_zeros n]
theorem valD_set : ∀ {l : List Nat} {k : Nat} (x : Nat), k < l.length → valD (l.set k (ix l k + x)) = valD l + x * 10 ^ k
  | d :: l, 0, x, _ => by
    simp only [List.set_cons_zero, ix, List.getD_cons_zero, valD, Nat.pow_zero, Nat.mul_one]
    omega
  | d :: l, k + 1, x, h => by
    have ih := valD_set (l := l) (k := k) x (by simpa using h)
    have e : ix (d :: l) (k + 1) = ix l k := rfl
    rw [e, List.set_cons_succ, valD, ih, valD, Nat.pow_succ, Nat.mul_add, ← Nat.mul_assoc x, Nat.mul_comm (x * 10 ^ k) 10]
    omega
theorem valD_lt : ∀ {l : List Nat}, Dg l → valD l < 10 ^ l.length
  | [], _ => by simp [valD]
  | d :: l, h => by
    have ih := valD_lt (l := l) fun x hx => h x (by simp [hx])
    have hd : d < 10 := h d (by simp)
    rw [valD, List.length_cons, Nat.pow_succ]
    omega
theorem dg_set {l : List Nat} (h : Dg l) {i x : Nat} (hx : x < 10) : Dg (l.set i x) := by
  intro d hd
  rcases List.mem_or_eq_of_mem_set hd with hd | rfl
  · exact h d hd
  · exact hx
theorem zeros_dg (n : Nat) : Dg (List.replicate n 0) := by
  intro d hd
  rw [(List.mem_replicate.1 hd).2]; omega

/-- Whole numbers, as ints. -/
def iw (l : List Nat) : List (List AV) := l.map fun (d : Nat) => [AV.int .i64 (d : Int)]
@[simp] theorem iw_len (l : List Nat) : (iw l).length = l.length := by simp [iw]
theorem iw_ix {l : List Nat} {i : Nat} (h : ltI ↑i ↑l.length = true) : (iw l)[i]? = some [AV.int .i64 ((ix l i : Nat) : Int)] := idxM (f := fun (d : Nat) => [AV.int .i64 (d : Int)]) h
theorem iw_set (l : List Nat) (i x : Nat) : (iw l).set i [AV.int .i64 (x : Int)] = iw (l.set i x) := by simp [iw, List.map_set]

/-- A call of a function that leaves memory alone, of a row that nobody writes from then on. -/
theorem PCalls.keep {P : Prg} {f : FuncId} {pos g e sz n : Nat} {els : List (List AV)} {m : Mem} {R : AOut → Prop} (h : PCalls P f [.list true sz (els.take n)] R) (hp : m.store[pos]? = some (g, .row e sz els)) (hn : n ≤ els.length) (hr : norefLL (els.take n) = true) :
    ACalls P f [.row pos g sz 0 n] m fun out m' => R out ∧ m' = m.turn pos .hole := by
  have ha : ACalls P f [.list true sz (els.take n)] (m.turn pos .hole) fun out m' => R out ∧ m' = m.turn pos .hole := h.acalls (by simp [tmpAs, tmpA, tmpB, AV.noref, hr])
  refine ⟨ha.1, fun β K σ w vals hrel hv hβ => ?_⟩
  obtain ⟨K', hK, hrel', hc⟩ := hrel.keep hp
  obtain ⟨u, us, rfl, h1, h2⟩ := hv
  rw [VRs] at h2
  subst h2
  refine (ha.2 β K' _ w [u] hrel' ⟨u, [], rfl, hc n hn u h1, rfl⟩ hβ).mono ?_
  rintro e w' ⟨K2, σ2, m', out, i1, i2, i3, i4, i5, i6⟩
  exact ⟨K2, σ2, m', out, i1, i2, (List.prefix_append _ _).trans i3, fun p b hb => i4 p b (hK p b hb), fun p b hb => i5 p b (hK p b hb), i6⟩

/-- Whatever is the one is the other, too. -/
def Wk (x y : AV) : Prop := ∀ (σ : Sig) (K : Bool → Nat → Prop) (w : World) (u : Value), VR σ K w x u → VR σ K w y u
theorem Wk.nil {p : Bool} {sz : Nat} : Wk .nilS (.list p sz []) := by
  intro σ K w u h
  simp only [VR] at h ⊢
  exact ⟨none, 0, 0, 0, h, Nat.le_refl _, .inl trivial, by simp [LR]⟩
theorem Sim.weak_cell {e : Env} {m : Mem} {pos g : Nat} {vs : List AV} (i : Nat) {x y : AV} (hp : m.store[pos]? = some (g, .cells vs)) (hi : vs[i]? = some x) (hw : Wk x y) :
    Sim e (m.put pos g (.cells (vs.set i y))) e m := by
  intro β N a w σ K hst
  refine ⟨σ, K, List.prefix_refl _, fun _ _ h => h, ?_, hst.env, hst.defers, hst.size⟩
  obtain ⟨s, hs, ho⟩ := hst.rel.objs pos g _ hp
  refine hst.rel.put hp hs ⟨rfl, rfl, rfl, Nat.le_refl _, fun _ _ _ => rfl⟩ ?_
  obtain ⟨b, c⟩ := s
  cases b with
  | none => exact ho
  | some b =>
    obtain ⟨cur, e, hb, hl, hcr⟩ := ho
    refine ⟨cur, e, hb, by rw [List.length_set]; exact hl, CR_iff.2 fun j z hj => ?_⟩
    rw [List.getElem?_set] at hj
    split at hj
    · rename_i hij
      subst hij
      split at hj
      · injection hj with hj; subst hj
        obtain ⟨u, hu1, hu2, hu3⟩ := CR_iff.1 hcr i _ hi
        exact ⟨u, hu1, hu2, hw _ _ _ _ hu3⟩
      · cases hj
    · exact CR_iff.1 hcr j z hj
theorem Sim.weak_env {e : Env} {m : Mem} (t : Nat) {x y : AV} (ht : e.get t = x) (hw : Wk x y) : Sim (e.set t y) m e m := by
  intro β N a w σ K hst
  refine ⟨σ, K, List.prefix_refl _, fun _ _ h => h, hst.rel, fun j => ?_, hst.defers, hst.size⟩
  rw [Env.get_set]
  split
  · rename_i hj; subst hj
    have := hst.env j
    rw [ht] at this
    exact hw _ _ _ _ this
  · exact hst.env j
theorem ext_ix {l l' : List Nat} (h : l.length = l'.length) (hx : ∀ t, t < l.length → ix l t = ix l' t) : l = l' := by
  refine List.ext_getElem h fun i h1 h2 => ?_
  have := hx i h1
  simpa [ix, List.getD, h1, h2] using this
theorem ix_set {l : List Nat} {i t x : Nat} (h : i < l.length) : ix (l.set i x) t = if i = t then x else ix l t := by
  simp only [ix, List.getD, List.getElem?_set]
  split
  · rename_i h1; subst h1; simp [h]
  · rfl

theorem YCalls.mono {P : Prg} {pos gen : Nat} {xs : List AV} {m : Mem} {R R' : AOut → Mem → Prop} (h : YCalls P pos gen xs m R) (hR : ∀ out m', R out m' → R' out m') : YCalls P pos gen xs m R' := by
  intro β K σ w vals b c hrel hv hg hβ
  obtain ⟨f, tmps, asg, bd, h1, h2⟩ := h β K σ w vals b c hrel hv hg hβ
  refine ⟨f, tmps, asg, bd, h1, fun r n => (h2 r n).mono ?_⟩
  rintro e w' ⟨K', σ', m', out, h3, h4⟩
  exact ⟨K', σ', m', out, hR _ _ h3, h4⟩
theorem postA_norm {rs : List Res} {R : AOut → Mem → Prop} {e : Env} {m : Mem} : postA rs R .norm e m = ∃ v, resA rs e m = some v ∧ R (.ret v) m := rfl
theorem rp_norm {pos gen : Nat} {e e1 : Env} {ok : Loop → Prop} {R : AOut → Mem → Prop} {m : Mem} : roundPost' pos gen e ok R .norm e1 m = (m.obj pos gen = some (.loop .busy e ok) ∧ ∃ m', Mem.le m' (m.put pos gen (.loop .ready e ok)) ∧ R (.ret (.bool true)) m') := rfl
theorem rp_exit {pos gen : Nat} {e e1 : Env} {ok : Loop → Prop} {R : AOut → Mem → Prop} {m : Mem} {id : Nat} : roundPost' pos gen e ok R (.exit id) e1 m = (m.obj pos gen = some (.loop .busy e ok) ∧ ∃ m', Mem.le m' (m.put pos gen (.loop (.exit id) e ok)) ∧ R (.ret (.bool false)) m') := rfl
theorem rp_panic {pos gen : Nat} {e e1 : Env} {ok : Loop → Prop} {R : AOut → Mem → Prop} {m : Mem} {v : AV} : roundPost' pos gen e ok R (.panic v) e1 m = R (.panic v) m := rfl

/-- Whatever is the one is the other, too. -/
def Sub (xs ys : List AV) : Prop := ∀ (K : Bool → Nat → Prop) (w : World) (us : List Value), VRs [] K w xs us → VRs [] K w ys us
theorem Sub.refl (xs : List AV) : Sub xs xs := fun _ _ _ h => h
theorem Sub.cons {x : AV} {xs ys : List AV} (h : Sub xs ys) : Sub (x :: xs) (x :: ys) := by
  intro K w us hv
  obtain ⟨u, us', rfl, h1, h2⟩ := hv
  exact ⟨u, us', rfl, h1, h K w us' h2⟩
theorem Sub.nil {p : Bool} {sz : Nat} {xs ys : List AV} (h : Sub xs ys) : Sub (.nilS :: xs) (.list p sz [] :: ys) := by
  intro K w us hv
  obtain ⟨u, us', rfl, h1, h2⟩ := hv
  refine ⟨u, us', rfl, ?_, h K w us' h2⟩
  simp only [VR] at h1 ⊢
  exact ⟨none, 0, 0, 0, h1, Nat.le_refl _, .inl trivial, by simp [LR]⟩
theorem PCalls.sub {P : Prg} {f : FuncId} {xs ys : List AV} {R : AOut → Prop} (h : PCalls P f ys R) (hs : Sub xs ys) : PCalls P f xs R :=
  ⟨h.1, fun K w vals hK hv hl => h.2 K w vals hK (hs K w vals hv) hl⟩

/-- A nil slice that is told is an empty list, too. -/
theorem PCalls.nilRet {P : Prg} {f : FuncId} {xs : List AV} {R R' : AOut → Prop} (sz : Nat) (h : PCalls P f xs R) (hR : ∀ out, R out → R' out ∨ out = .ret .nilS ∧ R' (.ret (.list true sz []))) : PCalls P f xs R' := by
  refine ⟨h.1, fun K w vals hK hv hl => ?_⟩
  refine (h.2 K w vals hK hv hl).mono ?_
  rintro e w' ⟨K', out, hr, hp, hg, h1, h2, hout⟩
  rcases hR out hr with hr' | ⟨rfl, hr'⟩
  · exact ⟨K', out, hr', hp, hg, h1, h2, hout⟩
  · refine ⟨K', _, hr', by simp [AOut.perm, AV.perm, permLL], hg, h1, h2, ?_⟩
    obtain ⟨u, h3, h4⟩ := hout
    refine ⟨u, h3, ?_⟩
    simp only [VR] at h4 ⊢
    exact ⟨none, 0, 0, 0, h4, Nat.le_refl _, .inl trivial, by simp [LR]⟩
end Go.Pm
