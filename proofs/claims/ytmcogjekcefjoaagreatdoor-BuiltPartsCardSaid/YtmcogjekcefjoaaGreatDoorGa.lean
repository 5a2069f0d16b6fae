/- BkA: the program of the built-in functions; what is known of its variables. -/
import Derived.Test.YtmcogjekcefjoaaGreatDoorProg
import Derived.KernelRfl
import Derived.Lib.LaidTab
import Derived.Lib.ItoaNum
import Derived.Test.YtmcogjekcefjoaaGreatDoorPmR
import Derived.Test.YtmcogjekcefjoaaGreatDoorPmS
set_option linter.unusedSimpArgs false
set_option linter.unusedVariables false
namespace Go.Pm
open Go Go.Proofs
def Bk.imp : List Go.FuncId := []
theorem pow10_at : Tryz.prog.globalNamed "internal/strconv.uint64pow10" = some 3 := by kernel_rfl
def Bk.ok (w : World) : Prop := Lib.TabIs Tryz.prog w "internal/strconv.uint64pow10" .u64 Lib.pow10Tab
theorem Bk.stable (w w' : World) (h : Bk.ok w) (hb : ∀ b, b < 8 → w'.heap[b]? = w.heap[b]?) : Bk.ok w' := by
  unfold Bk.ok Lib.TabIs World.var? at h ⊢
  rw [pow10_at] at h ⊢
  simp only [Option.bind_some] at h ⊢
  rw [hb 3 (by omega)]
  exact h
noncomputable def Bk.pg : Prg := { toProgram := Tryz.prog, ok := Bk.ok, blocks := fun b => b < 8, stable := Bk.stable }
end Go.Pm

/- BkD: lists by places; digits as values. -/
namespace Go.Pm
open Go Go.Proofs
def ix {α : Type} [Inhabited α] (l : List α) (i : Nat) : α := l.getD i default
theorem idx {α : Type} [Inhabited α] {l : List α} {i : Nat} (h : ltI ↑i ↑l.length = true) : l[i]? = some (ix l i) := by
  have h1 : i < l.length := by have := ltI_t.1 h; omega
  simp [ix, List.getD, h1]
theorem idxM {α β : Type} [Inhabited α] {f : α → β} {l : List α} {i : Nat} (h : ltI ↑i ↑l.length = true) : (l.map f)[i]? = some (f (ix l i)) := by
  rw [List.getElem?_map, idx h]; rfl
theorem ix_mem {α : Type} [Inhabited α] {l : List α} {i : Nat} (h : i < l.length) : ix l i ∈ l := by
  simp [ix, List.getD, h]
theorem eqS_r (a : ByteArray) : eqS a a = true := by simp [eqS]
theorem ltN {i n : Nat} (h : i < n) : ltI ↑i ↑n = true := ltI_t.2 (by omega)
theorem drop_ix {α : Type} [Inhabited α] {l : List α} {i : Nat} (h : i < l.length) : l.drop i = ix l i :: l.drop (i + 1) := by
  rw [List.drop_eq_getElem_cons h]
  simp [ix, List.getD, h]
theorem take_ix {α : Type} [Inhabited α] {l : List α} {i : Nat} (h : i < l.length) : l.take (i + 1) = l.take i ++ [ix l i] := by
  rw [List.take_add_one, idx (ltN h)]; rfl
def dl (l : List Nat) : List (List AV) := l.map fun (d : Nat) => [AV.int .u8 (d : Int)]
@[simp] theorem dl_len (l : List Nat) : (dl l).length = l.length := by simp [dl]
@[simp] theorem dl_perm : ∀ l : List Nat, permLL (dl l) = true
  | [] => rfl
  | d :: l => by simp only [dl, List.map_cons, permLL, permL, AV.perm, Bool.and_self, Bool.true_and]; exact dl_perm l
@[simp] theorem dl_noref : ∀ l : List Nat, norefLL (dl l) = true
  | [] => rfl
  | d :: l => by simp only [dl, List.map_cons, norefLL, norefL, AV.noref, Bool.and_self, Bool.true_and]; exact dl_noref l
theorem dl_take (l : List Nat) (n : Nat) : (dl l).take n = dl (l.take n) := by simp [dl, List.map_take]
theorem dl_drop (l : List Nat) (n : Nat) : (dl l).drop n = dl (l.drop n) := by simp [dl, List.map_drop]
theorem dl_ix {l : List Nat} {i : Nat} (h : ltI ↑i ↑l.length = true) : (dl l)[i]? = some [AV.int .u8 ((ix l i : Nat) : Int)] := idxM (f := fun (d : Nat) => [AV.int .u8 (d : Int)]) h
theorem dl_set (l : List Nat) (i x : Nat) : (dl l).set i [AV.int .u8 (x : Int)] = dl (l.set i x) := by simp [dl, List.map_set]
theorem dl_setK (l : List Nat) {i : Nat} (h : i < l.length) (v : List AV) : ((dl l).set i v)[i]? = some v := by simp [h]
theorem drop_set {α : Type} (l : List α) (i : Nat) (x : α) : (l.set i x).drop (i + 1) = l.drop (i + 1) := by
  rw [List.drop_set, if_pos (by omega)]
theorem take_set {α : Type} {l : List α} {i : Nat} (h : i < l.length) (x : α) : (l.set i x).take (i + 1) = l.take i ++ [x] := by
  rw [List.take_add_one, List.take_set_of_le (by omega)]
  simp [h]
def digs (n : Nat) : List Nat := if h : n = 0 then [] else n % 10 :: digs (n / 10)
termination_by n
decreasing_by omega
theorem digs_zero : digs 0 = [] := by rw [digs]; rfl
theorem digs_pos {n : Nat} (h : 0 < n) : digs n = n % 10 :: digs (n / 10) := by rw [digs, dif_neg (by omega)]
def trimD : List Nat → List Nat
  | [] => []
  | d :: l => if trimD l = [] ∧ d = 0 then [] else d :: trimD l
theorem trimD_snoc0 : ∀ l : List Nat, trimD (l ++ [0]) = trimD l
  | [] => by simp [trimD]
  | d :: l => by simp only [List.cons_append, trimD, trimD_snoc0 l]
theorem trimD_snoc {x : Nat} (h : x ≠ 0) : ∀ l : List Nat, trimD (l ++ [x]) = l ++ [x]
  | [] => by simp [trimD, h]
  | d :: l => by
    have ih := trimD_snoc h l
    simp only [List.cons_append, trimD, ih]
    simp
def valD : List Nat → Nat
  | [] => 0
  | d :: l => d + 10 * valD l
theorem valD_digs (n : Nat) : valD (digs n) = n := by
  induction n using Nat.strongRecOn with
  | ind n ih =>
    rcases Nat.eq_zero_or_pos n with rfl | h
    · rw [digs_zero]; rfl
    · rw [digs_pos h, valD, ih (n / 10) (by omega)]; omega
def Dg (l : List Nat) : Prop := ∀ d ∈ l, d < 10
theorem digs_dg (n : Nat) : Dg (digs n) := by
  induction n using Nat.strongRecOn with
  | ind n ih =>
    rcases Nat.eq_zero_or_pos n with rfl | h
    · rw [digs_zero]; intro d hd; simp at hd
    · rw [digs_pos h]
      intro d hd
      rcases List.mem_cons.1 hd with rfl | hd
      · omega
      · exact ih _ (by omega) d hd
theorem digs_len : ∀ (k n : Nat), n < 10 ^ k → (digs n).length ≤ k
  | 0, n, h => by have : n = 0 := by simpa using h
                  subst this; rw [digs_zero]; simp
  | k + 1, n, h => by
    rcases Nat.eq_zero_or_pos n with rfl | h0
    · rw [digs_zero]; simp
    · rw [digs_pos h0, List.length_cons]
      have := digs_len k (n / 10) (by rw [Nat.pow_succ] at h; omega)
      omega
theorem trim_digs : ∀ {l : List Nat}, Dg l → trimD l = digs (valD l)
  | [], _ => by rw [valD, digs_zero]; rfl
  | d :: l, h => by
    have ih := trim_digs (l := l) fun x hx => h x (by simp [hx])
    have hd : d < 10 := h d (by simp)
    unfold trimD
    rw [ih, valD]
    by_cases h0 : d + 10 * valD l = 0
    · have e1 : valD l = 0 := by omega
      have e2 : d = 0 := by omega
      rw [if_pos ⟨by rw [e1, digs_zero], e2⟩, h0, digs_zero]
    · rw [if_neg, digs_pos (n := d + 10 * valD l) (by omega)]
      · have e1 : (d + 10 * valD l) % 10 = d := by omega
        have e2 : (d + 10 * valD l) / 10 = valD l := by omega
        rw [e1, e2]
      · rintro ⟨h1, h2⟩
        have : valD l = 0 := by rw [← valD_digs (valD l), h1]; rfl
        omega
theorem valD_app : ∀ a b : List Nat, valD (a ++ b) = valD a + 10 ^ a.length * valD b
  | [], b => by simp [valD]
  | d :: a, b => by
    rw [List.cons_append, valD, valD, valD_app a b, List.length_cons, Nat.pow_succ, Nat.mul_add, Nat.mul_comm (10 ^ a.length) 10, Nat.mul_assoc]
    omega
theorem valD_take {l : List Nat} {k : Nat} (h : k < l.length) : valD (l.take (k + 1)) = valD (l.take k) + ix l k * 10 ^ k := by
  have e : (l.take k).length = k := by rw [List.length_take]; omega
  rw [take_ix h, valD_app, e, valD, valD, Nat.mul_zero, Nat.add_zero, Nat.mul_comm]
theorem valD_zeros : ∀ n : Nat, valD (List.replicate n 0) = 0
  | 0 => rfl
  | n + 1 => by rw [List.replicate_succ, valD, valD_zeros n]
theorem valD_set : ∀ {l : List Nat} {k : Nat} (x : Nat), k < l.length → valD (l.set k (ix l k + x)) = valD l + x * 10 ^ k
  | d :: l, 0, x, _ => by
    simp only [List.set_cons_zero, ix, List.getD_cons_zero, valD, Nat.pow_zero, Nat.mul_one]
    omega
  | d :: l, k + 1, x, h => by
    have ih := valD_set (l := l) (k := k) x (by simpa using h)
    have e : ix (d :: l) (k + 1) = ix l k := rfl
    rw [e, List.set_cons_succ, valD, ih, valD, Nat.pow_succ, Nat.mul_add, ← Nat.mul_assoc x, Nat.mul_comm (x * 10 ^ k) 10]
    omega
theorem valD_lt : ∀ {l : List Nat}, Dg l → valD l < 10 ^ l.length
  | [], _ => by simp [valD]
  | d :: l, h => by
    have ih := valD_lt (l := l) fun x hx => h x (by simp [hx])
    have hd : d < 10 := h d (by simp)
    rw [valD, List.length_cons, Nat.pow_succ]
    omega
theorem dg_set {l : List Nat} (h : Dg l) {i x : Nat} (hx : x < 10) : Dg (l.set i x) := by
  intro d hd
  rcases List.mem_or_eq_of_mem_set hd with hd | rfl
  · exact h d hd
  · exact hx
theorem zeros_dg (n : Nat) : Dg (List.replicate n 0) := by
  intro d hd
  rw [(List.mem_replicate.1 hd).2]; omega
def iw (l : List Nat) : List (List AV) := l.map fun (d : Nat) => [AV.int .i64 (d : Int)]
theorem iw_ix {l : List Nat} {i : Nat} (h : ltI ↑i ↑l.length = true) : (iw l)[i]? = some [AV.int .i64 ((ix l i : Nat) : Int)] := idxM (f := fun (d : Nat) => [AV.int .i64 (d : Int)]) h
theorem iw_set (l : List Nat) (i x : Nat) : (iw l).set i [AV.int .i64 (x : Int)] = iw (l.set i x) := by simp [iw, List.map_set]
theorem PCalls.keep {P : Prg} {f : FuncId} {pos g e sz n : Nat} {els : List (List AV)} {m : Mem} {R : AOut → Prop} (h : PCalls P f [.list true sz (els.take n)] R) (hp : m.store[pos]? = some (g, .row e sz els)) (hn : n ≤ els.length) (hr : norefLL (els.take n) = true) :
    ACalls P f [.row pos g sz 0 n] m fun out m' => R out ∧ m' = m.turn pos .hole := by
  have ha : ACalls P f [.list true sz (els.take n)] (m.turn pos .hole) fun out m' => R out ∧ m' = m.turn pos .hole := h.acalls (by simp [tmpAs, tmpA, tmpB, AV.noref, hr])
  refine ⟨ha.1, fun β K σ w vals hrel hv hβ => ?_⟩
  obtain ⟨K', hK, hrel', hc⟩ := hrel.keep hp
  obtain ⟨u, us, rfl, h1, h2⟩ := hv
  rw [VRs] at h2
  subst h2
  refine (ha.2 β K' _ w [u] hrel' ⟨u, [], rfl, hc n hn u h1, rfl⟩ hβ).mono ?_
  rintro e w' ⟨K2, σ2, m', out, i1, i2, i3, i4, i5, i6⟩
  exact ⟨K2, σ2, m', out, i1, i2, (List.prefix_append _ _).trans i3, fun p b hb => i4 p b (hK p b hb), fun p b hb => i5 p b (hK p b hb), i6⟩
def Wk (x y : AV) : Prop := ∀ (σ : Sig) (K : Bool → Nat → Prop) (w : World) (u : Value), VR σ K w x u → VR σ K w y u
theorem Wk.nil {p : Bool} {sz : Nat} : Wk .nilS (.list p sz []) := by
  intro σ K w u h
  simp only [VR] at h ⊢
  exact ⟨none, 0, 0, 0, h, Nat.le_refl _, .inl trivial, by simp [LR]⟩
theorem Sim.weak_cell {e : Env} {m : Mem} {pos g : Nat} {vs : List AV} (i : Nat) {x y : AV} (hp : m.store[pos]? = some (g, .cells vs)) (hi : vs[i]? = some x) (hw : Wk x y) :
    Sim e (m.put pos g (.cells (vs.set i y))) e m := by
  intro β N a w σ K hst
  refine ⟨σ, K, List.prefix_refl _, fun _ _ h => h, ?_, hst.env, hst.defers, hst.size⟩
  obtain ⟨s, hs, ho⟩ := hst.rel.objs pos g _ hp
  refine hst.rel.put hp hs ⟨rfl, rfl, rfl, Nat.le_refl _, fun _ _ _ => rfl⟩ ?_
  obtain ⟨b, c⟩ := s
  cases b with
  | none => exact ho
  | some b =>
    obtain ⟨cur, e, hb, hl, hcr⟩ := ho
    refine ⟨cur, e, hb, by rw [List.length_set]; exact hl, CR_iff.2 fun j z hj => ?_⟩
    rw [List.getElem?_set] at hj
    split at hj
    · rename_i hij
      subst hij
      split at hj
      · injection hj with hj; subst hj
        obtain ⟨u, hu1, hu2, hu3⟩ := CR_iff.1 hcr i _ hi
        exact ⟨u, hu1, hu2, hw _ _ _ _ hu3⟩
      · cases hj
    · exact CR_iff.1 hcr j z hj
theorem ext_ix {l l' : List Nat} (h : l.length = l'.length) (hx : ∀ t, t < l.length → ix l t = ix l' t) : l = l' := by
  refine List.ext_getElem h fun i h1 h2 => ?_
  have := hx i h1
  simpa [ix, List.getD, h1, h2] using this
theorem ix_set {l : List Nat} {i t x : Nat} (h : i < l.length) : ix (l.set i x) t = if i = t then x else ix l t := by
  simp only [ix, List.getD, List.getElem?_set]
  split
  · rename_i h1; subst h1; simp [h]
  · rfl
theorem YCalls.mono {P : Prg} {pos gen : Nat} {xs : List AV} {m : Mem} {R R' : AOut → Mem → Prop} (h : YCalls P pos gen xs m R) (hR : ∀ out m', R out m' → R' out m') : YCalls P pos gen xs m R' := by
  intro β K σ w vals b c hrel hv hg hβ
  obtain ⟨f, tmps, asg, bd, h1, h2⟩ := h β K σ w vals b c hrel hv hg hβ
  refine ⟨f, tmps, asg, bd, h1, fun r n => (h2 r n).mono ?_⟩
  rintro e w' ⟨K', σ', m', out, h3, h4⟩
  exact ⟨K', σ', m', out, hR _ _ h3, h4⟩
theorem postA_norm {rs : List Res} {R : AOut → Mem → Prop} {e : Env} {m : Mem} : postA rs R .norm e m = ∃ v, resA rs e m = some v ∧ R (.ret v) m := rfl
def Sub (xs ys : List AV) : Prop := ∀ (K : Bool → Nat → Prop) (w : World) (us : List Value), VRs [] K w xs us → VRs [] K w ys us
theorem Sub.refl (xs : List AV) : Sub xs xs := fun _ _ _ h => h
theorem Sub.cons {x : AV} {xs ys : List AV} (h : Sub xs ys) : Sub (x :: xs) (x :: ys) := by
  intro K w us hv
  obtain ⟨u, us', rfl, h1, h2⟩ := hv
  exact ⟨u, us', rfl, h1, h K w us' h2⟩
theorem Sub.nil {p : Bool} {sz : Nat} {xs ys : List AV} (h : Sub xs ys) : Sub (.nilS :: xs) (.list p sz [] :: ys) := by
  intro K w us hv
  obtain ⟨u, us', rfl, h1, h2⟩ := hv
  refine ⟨u, us', rfl, ?_, h K w us' h2⟩
  simp only [VR] at h1 ⊢
  exact ⟨none, 0, 0, 0, h1, Nat.le_refl _, .inl trivial, by simp [LR]⟩
theorem PCalls.sub {P : Prg} {f : FuncId} {xs ys : List AV} {R : AOut → Prop} (h : PCalls P f ys R) (hs : Sub xs ys) : PCalls P f xs R :=
  ⟨h.1, fun K w vals hK hv hl => h.2 K w vals hK (hs K w vals hv) hl⟩
theorem PCalls.nilRet {P : Prg} {f : FuncId} {xs : List AV} {R R' : AOut → Prop} (sz : Nat) (h : PCalls P f xs R) (hR : ∀ out, R out → R' out ∨ out = .ret .nilS ∧ R' (.ret (.list true sz []))) : PCalls P f xs R' := by
  refine ⟨h.1, fun K w vals hK hv hl => ?_⟩
  refine (h.2 K w vals hK hv hl).mono ?_
  rintro e w' ⟨K', out, hr, hp, hg, h1, h2, hout⟩
  rcases hR out hr with hr' | ⟨rfl, hr'⟩
  · exact ⟨K', out, hr', hp, hg, h1, h2, hout⟩
  · refine ⟨K', _, hr', by simp [AOut.perm, AV.perm, permLL], hg, h1, h2, ?_⟩
    obtain ⟨u, h3, h4⟩ := hout
    refine ⟨u, h3, ?_⟩
    simp only [VR] at h4 ⊢
    exact ⟨none, 0, 0, 0, h4, Nat.le_refl _, .inl trivial, by simp [LR]⟩
end Go.Pm

/- BkS1: code, resolved. Printed by ShowSC.lean and genok.py. -/
namespace Go.Pm
open Go Go.Proofs
def c52 : SC :=
 (.seq (.ops [⟨some 2, .plain .mv, [.lit .nilS], none⟩] []) (.seq (.ops [⟨some 3, .plain .mv, [.lit .nilS], none⟩] []) (.seq (.block 0 (.loop (.seq (.seq (.ops [⟨some 4, .plain .mv, [.tmp 0], none⟩, ⟨some 5, .plain (.bin .gtr), [.tmp 4, .lit (.int .i64 0)], none⟩] [4]) (.cond (.tmp 5) .skip (.exit 0))) (.seq (.block 1 (.ops [⟨some 8, .plain .mv, [.tmp 3], none⟩, ⟨some 9, .plain .mv, [.tmp 0], none⟩, ⟨some 10, .plain (.bin .rem), [.tmp 9, .lit (.int .i64 10)], none⟩, ⟨some 11, .plain (.convInt .u8), [.tmp 10], none⟩, ⟨some 12, .plain (.buildRow 5 1 1 [(.int .u8 0)] [0]), [.tmp 11], none⟩, ⟨some 13, .plain (.append 5 1 1), [.tmp 8, .tmp 12], none⟩, ⟨some 3, .plain .mv, [.tmp 13], none⟩] [8, 9, 10, 11, 12, 13])) (.ops [⟨some 6, .plain .mv, [.tmp 0], none⟩, ⟨some 7, .plain (.bin .quo), [.tmp 6, .lit (.int .i64 10)], none⟩, ⟨some 0, .plain .mv, [.tmp 7], none⟩] [6, 7]))))) (.seq (.ops [⟨some 14, .plain .mv, [.tmp 3], none⟩, ⟨some 2, .plain .mv, [.tmp 14], none⟩] [14]) .ret))))
def cr52 : List Res := [(2, none)]
theorem ok52 : FOk Bk.pg.toProgram Bk.imp 52 c52 cr52 Tryz.f52.ntmps := ⟨Tryz.f52, _, Tryz.func52, rfl, by kernel_rfl, by kernel_rfl, by kernel_rfl, rfl⟩
def c259 : SC :=
 (.seq (.ops [⟨some 2, .plain .mv, [.lit .nilS], none⟩] []) (.seq (.block 0 (.loop (.seq (.seq (.ops [⟨some 3, .plain .mv, [.tmp 0], none⟩, ⟨some 4, .plain (.len 1), [.tmp 3], none⟩, ⟨some 5, .plain (.bin .gtr), [.tmp 4, .lit (.int .i64 0)], none⟩, ⟨some 6, .plain .mv, [.tmp 5], none⟩, ⟨some 7, .plain .mv, [.tmp 0], (some (6, true))⟩, ⟨some 8, .plain .mv, [.tmp 0], (some (6, true))⟩, ⟨some 9, .plain (.len 1), [.tmp 8], (some (6, true))⟩, ⟨some 10, .plain (.bin .sub), [.tmp 9, .lit (.int .i64 1)], (some (6, true))⟩, ⟨some 11, .plain (.indexAddr 1), [.tmp 7, .tmp 10], (some (6, true))⟩, ⟨some 12, .plain (.load false 1), [.tmp 11], (some (6, true))⟩, ⟨some 13, .plain (.bin .eql), [.tmp 12, .lit (.int .u8 0)], (some (6, true))⟩, ⟨some 14, .plain .pick, [.tmp 6, .tmp 13, .lit (.bool false)], none⟩] [3, 4, 5, 6, 7, 8, 9, 10, 11, 12, 13]) (.cond (.tmp 14) .skip (.exit 0))) (.block 1 (.ops [⟨some 15, .plain .mv, [.tmp 0], none⟩, ⟨some 16, .plain .mv, [.tmp 0], none⟩, ⟨some 17, .plain (.len 1), [.tmp 16], none⟩, ⟨some 18, .plain (.bin .sub), [.tmp 17, .lit (.int .i64 1)], none⟩, ⟨some 19, .plain (.slice false true 1), [.tmp 15, .tmp 18], none⟩, ⟨some 0, .plain .mv, [.tmp 19], none⟩] [15, 16, 17, 18, 19]))))) (.seq (.ops [⟨some 20, .plain .mv, [.tmp 0], none⟩, ⟨some 2, .plain .mv, [.tmp 20], none⟩] [20]) .ret)))
def cr259 : List Res := [(2, none)]
theorem ok259 : FOk Bk.pg.toProgram Bk.imp 259 c259 cr259 Tryz.f259.ntmps := ⟨Tryz.f259, _, Tryz.func259, rfl, by kernel_rfl, by kernel_rfl, by kernel_rfl, rfl⟩
def c254 : SC :=
 (.seq (.ops [⟨some 4, .plain .mv, [.lit .nilS], none⟩] []) (.seq (.ops [⟨some 14, .plain .mv, [.tmp 0], none⟩, ⟨some 15, .plain (.len 1), [.tmp 14], none⟩, ⟨some 16, .plain .mv, [.tmp 1], none⟩, ⟨some 17, .plain (.len 1), [.tmp 16], none⟩, ⟨some 18, .plain (.bin .add), [.tmp 15, .tmp 17], none⟩, ⟨some 19, .plain (.bin .add), [.tmp 18, .lit (.int .i64 1)], none⟩, ⟨some 20, .plain (.mkRow 3 [(.int .i64 0)] 8), [.tmp 19, .tmp 19], none⟩, ⟨some 5, .plain .mv, [.tmp 20], none⟩] [14, 15, 16, 17, 18, 19, 20]) (.seq (.seq (.ops [⟨some 21, .plain .mv, [.tmp 0], none⟩, ⟨some 22, .plain (.len 1), [.tmp 21], none⟩, ⟨some 23, .plain .mv, [.lit (.int .i64 0)], none⟩] []) (.block 0 (.loop (.seq (.ops [⟨some 24, .plain (.bin .lss), [.tmp 23, .tmp 22], none⟩] []) (.seq (.cond (.tmp 24) .skip (.exit 0)) (.seq (.block 1 (.seq (.ops [⟨some 25, .plain .mv, [.tmp 23], none⟩, ⟨some 26, .plain (.indexAddr 1), [.tmp 21, .tmp 23], none⟩, ⟨some 27, .plain (.load false 1), [.tmp 26], none⟩, ⟨some 6, .plain .mv, [.tmp 25], none⟩, ⟨some 7, .plain .mv, [.tmp 27], none⟩] [25, 26, 27]) (.seq (.ops [⟨some 28, .plain .mv, [.tmp 1], none⟩, ⟨some 29, .plain (.len 1), [.tmp 28], none⟩, ⟨some 30, .plain .mv, [.lit (.int .i64 0)], none⟩] []) (.block 2 (.loop (.seq (.ops [⟨some 31, .plain (.bin .lss), [.tmp 30, .tmp 29], none⟩] []) (.seq (.cond (.tmp 31) .skip (.exit 2)) (.seq (.block 3 (.seq (.ops [⟨some 32, .plain .mv, [.tmp 30], none⟩, ⟨some 33, .plain (.indexAddr 1), [.tmp 28, .tmp 30], none⟩, ⟨some 34, .plain (.load false 1), [.tmp 33], none⟩, ⟨some 8, .plain .mv, [.tmp 32], none⟩, ⟨some 9, .plain .mv, [.tmp 34], none⟩] [32, 33, 34]) (.ops [⟨some 35, .plain .mv, [.tmp 5], none⟩, ⟨some 36, .plain .mv, [.tmp 6], none⟩, ⟨some 37, .plain .mv, [.tmp 8], none⟩, ⟨some 38, .plain (.bin .add), [.tmp 36, .tmp 37], none⟩, ⟨some 39, .plain (.indexAddr 1), [.tmp 35, .tmp 38], none⟩, ⟨some 40, .plain (.load false 1), [.tmp 39], none⟩, ⟨some 41, .plain .mv, [.tmp 7], none⟩, ⟨some 42, .plain (.convInt .i64), [.tmp 41], none⟩, ⟨some 43, .plain .mv, [.tmp 9], none⟩, ⟨some 44, .plain (.convInt .i64), [.tmp 43], none⟩, ⟨some 45, .plain (.bin .mul), [.tmp 42, .tmp 44], none⟩, ⟨some 46, .plain (.bin .add), [.tmp 40, .tmp 45], none⟩, ⟨some 47, .plain (.indexAddr 1), [.tmp 35, .tmp 38], none⟩, ⟨none, .plain (.store 1), [.tmp 47, .tmp 46], none⟩] [35, 36, 37, 38, 39, 40, 41, 42, 43, 44, 45, 46, 47]))) (.ops [⟨some 48, .plain (.bin .add), [.tmp 30, .lit (.int .i64 1)], none⟩, ⟨some 30, .plain .mv, [.tmp 48], none⟩] [48]))))))))) (.ops [⟨some 49, .plain (.bin .add), [.tmp 23, .lit (.int .i64 1)], none⟩, ⟨some 23, .plain .mv, [.tmp 49], none⟩] [49]))))))) (.seq (.ops [⟨some 50, .plain .mv, [.tmp 5], none⟩, ⟨some 51, .plain (.len 1), [.tmp 50], none⟩, ⟨some 52, .plain (.mkRow 5 [(.int .u8 0)] 1), [.tmp 51, .tmp 51], none⟩, ⟨some 10, .plain .mv, [.tmp 52], none⟩] [50, 51, 52]) (.seq (.ops [⟨some 11, .plain .mv, [.lit (.int .i64 0)], none⟩] []) (.seq (.seq (.ops [⟨some 53, .plain .mv, [.tmp 5], none⟩, ⟨some 54, .plain (.len 1), [.tmp 53], none⟩, ⟨some 55, .plain .mv, [.lit (.int .i64 0)], none⟩] []) (.block 4 (.loop (.seq (.ops [⟨some 56, .plain (.bin .lss), [.tmp 55, .tmp 54], none⟩] []) (.seq (.cond (.tmp 56) .skip (.exit 4)) (.seq (.block 5 (.seq (.ops [⟨some 57, .plain .mv, [.tmp 55], none⟩, ⟨some 58, .plain (.indexAddr 1), [.tmp 53, .tmp 55], none⟩, ⟨some 59, .plain (.load false 1), [.tmp 58], none⟩, ⟨some 12, .plain .mv, [.tmp 57], none⟩, ⟨some 13, .plain .mv, [.tmp 59], none⟩] [57, 58, 59]) (.seq (.ops [⟨some 60, .plain .mv, [.tmp 11], none⟩, ⟨some 61, .plain .mv, [.tmp 13], none⟩, ⟨some 62, .plain (.bin .add), [.tmp 60, .tmp 61], none⟩, ⟨some 11, .plain .mv, [.tmp 62], none⟩] [60, 61, 62]) (.seq (.ops [⟨some 63, .plain .mv, [.tmp 10], none⟩, ⟨some 64, .plain .mv, [.tmp 12], none⟩, ⟨some 65, .plain .mv, [.tmp 11], none⟩, ⟨some 66, .plain (.bin .rem), [.tmp 65, .lit (.int .i64 10)], none⟩, ⟨some 67, .plain (.convInt .u8), [.tmp 66], none⟩, ⟨some 68, .plain (.indexAddr 1), [.tmp 63, .tmp 64], none⟩, ⟨none, .plain (.store 1), [.tmp 68, .tmp 67], none⟩] [63, 64, 65, 66, 67, 68]) (.ops [⟨some 69, .plain .mv, [.tmp 11], none⟩, ⟨some 70, .plain (.bin .quo), [.tmp 69, .lit (.int .i64 10)], none⟩, ⟨some 11, .plain .mv, [.tmp 70], none⟩] [69, 70]))))) (.ops [⟨some 71, .plain (.bin .add), [.tmp 55, .lit (.int .i64 1)], none⟩, ⟨some 55, .plain .mv, [.tmp 71], none⟩] [71]))))))) (.seq (.ops [⟨some 72, .plain .mv, [.tmp 10], none⟩, ⟨some 73, .call 259, [.tmp 72], none⟩, ⟨some 4, .plain .mv, [.tmp 73], none⟩] [72, 73]) .ret)))))))
def cr254 : List Res := [(4, none)]
theorem ok254 : FOk Bk.pg.toProgram Bk.imp 254 c254 cr254 Tryz.f254.ntmps := ⟨Tryz.f254, _, Tryz.func254, rfl, by kernel_rfl, by kernel_rfl, by kernel_rfl, rfl⟩
def c255 : SC :=
 (.seq (.ops [⟨some 4, .plain .mv, [.lit .nilS], none⟩] []) (.seq (.ops [⟨some 6, .call 52, [.lit (.int .i64 1)], none⟩, ⟨some 5, .plain .mv, [.tmp 6], none⟩] [6]) (.seq (.seq (.ops [⟨some 7, .plain .mv, [.tmp 1], none⟩, ⟨some 8, .plain .mv, [.lit (.int .i64 0)], none⟩] []) (.block 0 (.loop (.seq (.ops [⟨some 9, .plain (.bin .lss), [.tmp 8, .tmp 7], none⟩] []) (.seq (.cond (.tmp 9) .skip (.exit 0)) (.seq (.block 1 (.ops [⟨some 10, .plain .mv, [.tmp 5], none⟩, ⟨some 11, .plain .mv, [.tmp 0], none⟩, ⟨some 12, .call 52, [.tmp 11], none⟩, ⟨some 13, .call 254, [.tmp 10, .tmp 12], none⟩, ⟨some 5, .plain .mv, [.tmp 13], none⟩] [10, 11, 12, 13])) (.ops [⟨some 14, .plain (.bin .add), [.tmp 8, .lit (.int .i64 1)], none⟩, ⟨some 8, .plain .mv, [.tmp 14], none⟩] [14]))))))) (.seq (.ops [⟨some 15, .plain .mv, [.tmp 5], none⟩, ⟨some 4, .plain .mv, [.tmp 15], none⟩] [15]) .ret))))
def cr255 : List Res := [(4, none)]
theorem ok255 : FOk Bk.pg.toProgram Bk.imp 255 c255 cr255 Tryz.f255.ntmps := ⟨Tryz.f255, _, Tryz.func255, rfl, by kernel_rfl, by kernel_rfl, by kernel_rfl, rfl⟩
def c257 : SC :=
 (.seq (.ops [⟨some 4, .plain .mv, [.lit (.int .i64 0)], none⟩] []) (.seq (.seq (.ops [⟨some 6, .plain .mv, [.tmp 0], none⟩, ⟨some 7, .plain (.len 1), [.tmp 6], none⟩, ⟨some 8, .plain .mv, [.tmp 1], none⟩, ⟨some 9, .plain (.len 1), [.tmp 8], none⟩, ⟨some 10, .plain (.bin .neq), [.tmp 7, .tmp 9], none⟩] [6, 7, 8, 9]) (.cond (.tmp 10) (.seq (.ops [⟨some 11, .plain .mv, [.tmp 0], none⟩, ⟨some 12, .plain (.len 1), [.tmp 11], none⟩, ⟨some 13, .plain .mv, [.tmp 1], none⟩, ⟨some 14, .plain (.len 1), [.tmp 13], none⟩, ⟨some 15, .plain (.bin .sub), [.tmp 12, .tmp 14], none⟩, ⟨some 4, .plain .mv, [.tmp 15], none⟩] [11, 12, 13, 14, 15]) .ret) .skip)) (.seq (.seq (.ops [⟨some 16, .plain .mv, [.tmp 0], none⟩, ⟨some 17, .plain (.len 1), [.tmp 16], none⟩, ⟨some 18, .plain (.bin .sub), [.tmp 17, .lit (.int .i64 1)], none⟩, ⟨some 5, .plain .mv, [.tmp 18], none⟩] [16, 17, 18]) (.block 0 (.loop (.seq (.seq (.ops [⟨some 19, .plain .mv, [.tmp 5], none⟩, ⟨some 20, .plain (.bin .geq), [.tmp 19, .lit (.int .i64 0)], none⟩] [19]) (.cond (.tmp 20) .skip (.exit 0))) (.seq (.block 1 (.seq (.draw (.step ⟨some 23, .plain .mv, [.tmp 0], none⟩ (.step ⟨some 24, .plain .mv, [.tmp 5], none⟩ (.step ⟨some 25, .plain (.indexAddr 1), [.tmp 23, .tmp 24], none⟩ (.step ⟨some 26, .plain (.load false 1), [.tmp 25], none⟩ (.step ⟨some 27, .plain .mv, [.tmp 1], none⟩ (.step ⟨some 28, .plain .mv, [.tmp 5], none⟩ (.step ⟨some 29, .plain (.indexAddr 1), [.tmp 27, .tmp 28], none⟩ (.step ⟨some 30, .plain (.load false 1), [.tmp 29], none⟩ (.step ⟨some 31, .plain (.bin .neq), [.tmp 26, .tmp 30], none⟩ .done))))))))) [23, 24, 25, 26, 27, 28, 29, 30]) (.cond (.tmp 31) (.seq (.draw (.step ⟨some 32, .plain .mv, [.tmp 0], none⟩ (.step ⟨some 33, .plain .mv, [.tmp 5], none⟩ (.step ⟨some 34, .plain (.indexAddr 1), [.tmp 32, .tmp 33], none⟩ (.step ⟨some 35, .plain (.load false 1), [.tmp 34], none⟩ (.step ⟨some 36, .plain (.convInt .i64), [.tmp 35], none⟩ (.step ⟨some 37, .plain .mv, [.tmp 1], none⟩ (.step ⟨some 38, .plain .mv, [.tmp 5], none⟩ (.step ⟨some 39, .plain (.indexAddr 1), [.tmp 37, .tmp 38], none⟩ (.step ⟨some 40, .plain (.load false 1), [.tmp 39], none⟩ (.step ⟨some 41, .plain (.convInt .i64), [.tmp 40], none⟩ (.step ⟨some 42, .plain (.bin .sub), [.tmp 36, .tmp 41], none⟩ (.step ⟨some 4, .plain .mv, [.tmp 42], none⟩ .done)))))))))))) [32, 33, 34, 35, 36, 37, 38, 39, 40, 41, 42]) .ret) .skip))) (.ops [⟨some 21, .plain .mv, [.tmp 5], none⟩, ⟨some 22, .plain (.bin .sub), [.tmp 21, .lit (.int .i64 1)], none⟩, ⟨some 5, .plain .mv, [.tmp 22], none⟩] [21, 22])))))) (.seq (.ops [⟨some 4, .plain .mv, [.lit (.int .i64 0)], none⟩] []) .ret))))
def cr257 : List Res := [(4, none)]
theorem ok257 : FOk Bk.pg.toProgram Bk.imp 257 c257 cr257 Tryz.f257.ntmps := ⟨Tryz.f257, _, Tryz.func257, rfl, by kernel_rfl, by kernel_rfl, by kernel_rfl, rfl⟩
def c253 : SC :=
 (.seq (.ops [⟨some 4, .plain .mv, [.lit .nilS], none⟩] []) (.seq (.ops [⟨some 9, .plain .mv, [.tmp 0], none⟩, ⟨some 10, .call 320, [.tmp 9], none⟩, ⟨some 5, .plain .mv, [.tmp 10], none⟩] [9, 10]) (.seq (.ops [⟨some 6, .plain .mv, [.lit (.int .u8 0)], none⟩] []) (.seq (.seq (.ops [⟨some 11, .plain .mv, [.tmp 5], none⟩, ⟨some 12, .plain (.len 1), [.tmp 11], none⟩, ⟨some 13, .plain .mv, [.lit (.int .i64 0)], none⟩] [11]) (.block 0 (.loop (.seq (.ops [⟨some 14, .plain (.bin .lss), [.tmp 13, .tmp 12], none⟩] []) (.seq (.cond (.tmp 14) .skip (.exit 0)) (.seq (.block 1 (.seq (.ops [⟨some 15, .plain .mv, [.tmp 13], none⟩, ⟨some 7, .plain .mv, [.tmp 15], none⟩] [15]) (.seq (.ops [⟨some 16, .plain .mv, [.tmp 6], none⟩, ⟨some 8, .plain .mv, [.tmp 16], none⟩] [16]) (.seq (.seq (.ops [⟨some 17, .plain .mv, [.tmp 7], none⟩, ⟨some 18, .plain .mv, [.tmp 1], none⟩, ⟨some 19, .plain (.len 1), [.tmp 18], none⟩, ⟨some 20, .plain (.bin .lss), [.tmp 17, .tmp 19], none⟩] [17, 18, 19]) (.cond (.tmp 20) (.ops [⟨some 21, .plain .mv, [.tmp 8], none⟩, ⟨some 22, .plain .mv, [.tmp 1], none⟩, ⟨some 23, .plain .mv, [.tmp 7], none⟩, ⟨some 24, .plain (.indexAddr 1), [.tmp 22, .tmp 23], none⟩, ⟨some 25, .plain (.load false 1), [.tmp 24], none⟩, ⟨some 26, .plain (.bin .add), [.tmp 21, .tmp 25], none⟩, ⟨some 8, .plain .mv, [.tmp 26], none⟩] [21, 22, 23, 24, 25, 26]) .skip)) (.seq (.ops [⟨some 6, .plain .mv, [.lit (.int .u8 0)], none⟩] []) (.seq (.seq (.ops [⟨some 27, .plain .mv, [.tmp 5], none⟩, ⟨some 28, .plain .mv, [.tmp 7], none⟩, ⟨some 29, .plain (.indexAddr 1), [.tmp 27, .tmp 28], none⟩, ⟨some 30, .plain (.load false 1), [.tmp 29], none⟩, ⟨some 31, .plain .mv, [.tmp 8], none⟩, ⟨some 32, .plain (.bin .lss), [.tmp 30, .tmp 31], none⟩] [27, 28, 29, 30, 31]) (.cond (.tmp 32) (.seq (.ops [⟨some 33, .plain .mv, [.tmp 5], none⟩, ⟨some 34, .plain .mv, [.tmp 7], none⟩, ⟨some 35, .plain (.indexAddr 1), [.tmp 33, .tmp 34], none⟩, ⟨some 36, .plain (.load false 1), [.tmp 35], none⟩, ⟨some 37, .plain (.bin .add), [.tmp 36, .lit (.int .u8 10)], none⟩, ⟨some 38, .plain (.indexAddr 1), [.tmp 33, .tmp 34], none⟩, ⟨none, .plain (.store 1), [.tmp 38, .tmp 37], none⟩] [33, 34, 35, 36, 37, 38]) (.ops [⟨some 6, .plain .mv, [.lit (.int .u8 1)], none⟩] [])) .skip)) (.ops [⟨some 39, .plain .mv, [.tmp 5], none⟩, ⟨some 40, .plain .mv, [.tmp 7], none⟩, ⟨some 41, .plain (.indexAddr 1), [.tmp 39, .tmp 40], none⟩, ⟨some 42, .plain (.load false 1), [.tmp 41], none⟩, ⟨some 43, .plain .mv, [.tmp 8], none⟩, ⟨some 44, .plain (.bin .sub), [.tmp 42, .tmp 43], none⟩, ⟨some 45, .plain (.indexAddr 1), [.tmp 39, .tmp 40], none⟩, ⟨none, .plain (.store 1), [.tmp 45, .tmp 44], none⟩] [39, 40, 41, 42, 43, 44, 45]))))))) (.ops [⟨some 46, .plain (.bin .add), [.tmp 13, .lit (.int .i64 1)], none⟩, ⟨some 13, .plain .mv, [.tmp 46], none⟩] [46]))))))) (.seq (.ops [⟨some 47, .plain .mv, [.tmp 5], none⟩, ⟨some 48, .call 259, [.tmp 47], none⟩, ⟨some 4, .plain .mv, [.tmp 48], none⟩] [47, 48]) .ret)))))
def cr253 : List Res := [(4, none)]
theorem ok253 : FOk Bk.pg.toProgram Bk.imp 253 c253 cr253 Tryz.f253.ntmps := ⟨Tryz.f253, _, Tryz.func253, rfl, by kernel_rfl, by kernel_rfl, by kernel_rfl, rfl⟩
def c243 : SC :=
 (.seq (.ops [⟨some 4, .plain .mv, [.lit .nilS], none⟩] []) (.seq (.seq (.ops [⟨some 5, .plain .mv, [.tmp 0], none⟩, ⟨some 6, .plain (.len 1), [.tmp 5], none⟩, ⟨some 7, .plain (.bin .eql), [.tmp 6, .lit (.int .i64 0)], none⟩] [5, 6]) (.cond (.tmp 7) (.seq (.ops [⟨some 4, .plain .mv, [.lit .nilS], none⟩] []) .ret) .skip)) (.seq (.ops [⟨some 8, .plain .mv, [.tmp 1], none⟩, ⟨some 9, .plain (.mkRow 5 [(.int .u8 0)] 1), [.tmp 8, .tmp 8], none⟩, ⟨some 10, .plain .mv, [.tmp 0], none⟩, ⟨some 11, .plain (.append 5 1 1), [.tmp 9, .tmp 10], none⟩, ⟨some 4, .plain .mv, [.tmp 11], none⟩] [8, 9, 10, 11]) .ret)))
def cr243 : List Res := [(4, none)]
theorem ok243 : FOk Bk.pg.toProgram Bk.imp 243 c243 cr243 Tryz.f243.ntmps := ⟨Tryz.f243, _, Tryz.func243, rfl, by kernel_rfl, by kernel_rfl, by kernel_rfl, rfl⟩
def c244 : SC :=
 (.seq (.ops [⟨some 4, .plain .mv, [.lit .nilS], none⟩] []) (.seq (.seq (.ops [⟨some 5, .plain .mv, [.tmp 1], none⟩, ⟨some 6, .plain .mv, [.tmp 0], none⟩, ⟨some 7, .plain (.len 1), [.tmp 6], none⟩, ⟨some 8, .plain (.bin .geq), [.tmp 5, .tmp 7], none⟩] [5, 6, 7]) (.cond (.tmp 8) (.seq (.ops [⟨some 4, .plain .mv, [.lit .nilS], none⟩] []) .ret) .skip)) (.seq (.ops [⟨some 9, .plain .mv, [.tmp 0], none⟩, ⟨some 10, .plain .mv, [.tmp 1], none⟩, ⟨some 11, .plain (.slice true false 1), [.tmp 9, .tmp 10], none⟩, ⟨some 12, .call 320, [.tmp 11], none⟩, ⟨some 4, .plain .mv, [.tmp 12], none⟩] [9, 10, 11, 12]) .ret)))
def cr244 : List Res := [(4, none)]
theorem ok244 : FOk Bk.pg.toProgram Bk.imp 244 c244 cr244 Tryz.f244.ntmps := ⟨Tryz.f244, _, Tryz.func244, rfl, by kernel_rfl, by kernel_rfl, by kernel_rfl, rfl⟩
def c320 : SC :=
 (.seq (.ops [⟨some 2, .plain .mv, [.lit .nilS], none⟩] []) (.seq (.seq (.ops [⟨some 3, .plain .mv, [.tmp 0], none⟩, ⟨some 4, .many (.isNil false), [.tmp 3, .lit .nilS], none⟩] [3]) (.cond (.tmp 4) (.seq (.ops [⟨some 2, .plain .mv, [.lit .nilS], none⟩] []) .ret) .skip)) (.seq (.ops [⟨some 5, .plain (.buildRow 5 1 0 [(.int .u8 0)] []), [], none⟩, ⟨some 6, .plain .mv, [.tmp 0], none⟩, ⟨some 7, .plain (.append 5 1 1), [.tmp 5, .tmp 6], none⟩, ⟨some 2, .plain .mv, [.tmp 7], none⟩] [5, 6, 7]) .ret)))
def cr320 : List Res := [(2, none)]
theorem ok320 : FOk Bk.pg.toProgram Bk.imp 320 c320 cr320 Tryz.f320.ntmps := ⟨Tryz.f320, _, Tryz.func320, rfl, by kernel_rfl, by kernel_rfl, by kernel_rfl, rfl⟩
def c321 : SC :=
 (.seq (.ops [⟨some 1, .plain (.box 1), [.tmp 0], none⟩, ⟨some 2, .plain .mv, [.lit (.const .nilFunc)], none⟩] []) (.seq (.ops [⟨some 3, .plain (.mkFn 356), [.tmp 1], none⟩, ⟨some 2, .plain .mv, [.tmp 3], none⟩] [3]) .ret))
def cr321 : List Res := [(2, none)]
theorem ok321 : FOk Bk.pg.toProgram Bk.imp 321 c321 cr321 Tryz.f321.ntmps := ⟨Tryz.f321, _, Tryz.func321, rfl, by kernel_rfl, by kernel_rfl, by kernel_rfl, rfl⟩
def c356 : SC :=
 (.seq (.ops [⟨some 4, .plain (.load false 1), [.tmp 1], none⟩, ⟨some 5, .plain (.len 1), [.tmp 4], none⟩, ⟨some 6, .plain (.bin .sub), [.tmp 5, .lit (.int .i64 1)], none⟩, ⟨some 3, .plain .mv, [.tmp 6], none⟩] [4, 5, 6]) (.block 0 (.loop (.seq (.seq (.ops [⟨some 7, .plain .mv, [.tmp 3], none⟩, ⟨some 8, .plain (.bin .geq), [.tmp 7, .lit (.int .i64 0)], none⟩] [7]) (.cond (.tmp 8) .skip (.exit 0))) (.seq (.block 1 (.seq (.ops [⟨some 11, .plain .mv, [.tmp 0], none⟩, ⟨some 12, .plain (.load false 1), [.tmp 1], none⟩, ⟨some 13, .plain .mv, [.tmp 3], none⟩, ⟨some 14, .plain (.indexAddr 1), [.tmp 12, .tmp 13], none⟩, ⟨some 15, .plain (.load false 1), [.tmp 14], none⟩, ⟨some 16, .callv, [.tmp 11, .tmp 15], none⟩, ⟨some 17, .plain (.un .not), [.tmp 16], none⟩] [11, 12, 13, 14, 15, 16]) (.cond (.tmp 17) .ret .skip))) (.ops [⟨some 9, .plain .mv, [.tmp 3], none⟩, ⟨some 10, .plain (.bin .sub), [.tmp 9, .lit (.int .i64 1)], none⟩, ⟨some 3, .plain .mv, [.tmp 10], none⟩] [9, 10]))))))
def cr356 : List Res := []
theorem ok356 : FOk Bk.pg.toProgram Bk.imp 356 c356 cr356 Tryz.f356.ntmps := ⟨Tryz.f356, _, Tryz.func356, rfl, by kernel_rfl, by kernel_rfl, by kernel_rfl, rfl⟩
def c245 : SC :=
 (.seq (.ops [⟨some 2, .plain .mv, [.lit (.int .i64 0)], none⟩] []) (.seq (.ops [⟨some 3, .plain (.alloc [(.int .i64 0)]), [], none⟩, ⟨none, .plain (.store 1), [.tmp 3, .lit (.int .i64 0)], none⟩] []) (.seq (.seq (.ops [⟨some 5, .plain .mv, [.tmp 0], none⟩, ⟨some 6, .call 321, [.tmp 5], none⟩] [5]) (.block 0 (.rangeF (.tmp 6) [7] (.ops [⟨some 4, .plain .mv, [.tmp 7], none⟩] []) (.block 1 (.ops [⟨some 8, .plain (.load false 1), [.tmp 3], none⟩, ⟨some 9, .plain (.bin .mul), [.tmp 8, .lit (.int .i64 10)], none⟩, ⟨some 10, .plain .mv, [.tmp 4], none⟩, ⟨some 11, .plain (.convInt .i64), [.tmp 10], none⟩, ⟨some 12, .plain (.bin .add), [.tmp 9, .tmp 11], none⟩, ⟨none, .plain (.store 1), [.tmp 3, .tmp 12], none⟩] [8, 9, 10, 11, 12]))))) (.seq (.ops [⟨some 13, .plain (.load false 1), [.tmp 3], none⟩, ⟨some 2, .plain .mv, [.tmp 13], none⟩] [13]) .ret))))
def cr245 : List Res := [(2, none)]
theorem ok245 : FOk Bk.pg.toProgram Bk.imp 245 c245 cr245 Tryz.f245.ntmps := ⟨Tryz.f245, _, Tryz.func245, rfl, by kernel_rfl, by kernel_rfl, by kernel_rfl, rfl⟩
def c252 : SC :=
 (.seq (.ops [⟨some 3, .plain (.box 1), [.tmp 1], none⟩, ⟨some 4, .plain .mv, [.lit .nilS], none⟩] []) (.seq (.ops [⟨some 5, .plain (.alloc [.nilS]), [], none⟩, ⟨some 6, .plain (.alloc [.nilS]), [], none⟩] []) (.seq (.seq (.ops [⟨some 9, .plain .mv, [.tmp 0], none⟩, ⟨some 10, .call 321, [.tmp 9], none⟩] [9]) (.block 0 (.rangeF (.tmp 10) [11] (.ops [⟨some 7, .plain .mv, [.tmp 11], none⟩] []) (.block 1 (.seq (.ops [⟨some 12, .plain .mv, [.tmp 7], none⟩, ⟨some 13, .plain (.buildRow 5 1 1 [(.int .u8 0)] [0]), [.tmp 12], none⟩, ⟨some 14, .plain (.load false 1), [.tmp 6], none⟩, ⟨some 15, .plain (.append 5 1 1), [.tmp 13, .tmp 14], none⟩, ⟨some 16, .call 259, [.tmp 15], none⟩, ⟨none, .plain (.store 1), [.tmp 6, .tmp 16], none⟩] [12, 13, 14, 15, 16]) (.seq (.ops [⟨some 8, .plain .mv, [.lit (.int .u8 0)], none⟩] []) (.seq (.block 2 (.loop (.seq (.seq (.ops [⟨some 17, .plain (.load false 1), [.tmp 6], none⟩, ⟨some 18, .plain (.load false 1), [.tmp 3], none⟩, ⟨some 19, .call 257, [.tmp 17, .tmp 18], none⟩, ⟨some 20, .plain (.bin .geq), [.tmp 19, .lit (.int .i64 0)], none⟩] [17, 18, 19]) (.cond (.tmp 20) .skip (.exit 2))) (.block 3 (.seq (.ops [⟨some 21, .plain (.load false 1), [.tmp 6], none⟩, ⟨some 22, .plain (.load false 1), [.tmp 3], none⟩, ⟨some 23, .call 253, [.tmp 21, .tmp 22], none⟩, ⟨none, .plain (.store 1), [.tmp 6, .tmp 23], none⟩] [21, 22, 23]) (.ops [⟨some 24, .plain .mv, [.tmp 8], none⟩, ⟨some 25, .plain (.bin .add), [.tmp 24, .lit (.int .u8 1)], none⟩, ⟨some 8, .plain .mv, [.tmp 25], none⟩] [24, 25])))))) (.ops [⟨some 26, .plain (.load false 1), [.tmp 5], none⟩, ⟨some 27, .plain .mv, [.tmp 8], none⟩, ⟨some 28, .plain (.buildRow 5 1 1 [(.int .u8 0)] [0]), [.tmp 27], none⟩, ⟨some 29, .plain (.append 5 1 1), [.tmp 26, .tmp 28], none⟩, ⟨none, .plain (.store 1), [.tmp 5, .tmp 29], none⟩] [26, 27, 28, 29])))))))) (.seq (.ops [⟨some 30, .plain (.load false 1), [.tmp 5], none⟩, ⟨some 31, .call 324, [.tmp 30], none⟩] [30, 31]) (.seq (.ops [⟨some 32, .plain (.load false 1), [.tmp 5], none⟩, ⟨some 33, .call 259, [.tmp 32], none⟩, ⟨some 4, .plain .mv, [.tmp 33], none⟩] [32, 33]) .ret)))))
def cr252 : List Res := [(4, none)]
theorem ok252 : FOk Bk.pg.toProgram Bk.imp 252 c252 cr252 Tryz.f252.ntmps := ⟨Tryz.f252, _, Tryz.func252, rfl, by kernel_rfl, by kernel_rfl, by kernel_rfl, rfl⟩
def c324 : SC :=
 (.seq (.ops [⟨some 4, .plain .mv, [.tmp 0], none⟩, ⟨some 5, .plain (.len 1), [.tmp 4], none⟩, ⟨some 6, .plain (.bin .sub), [.tmp 5, .lit (.int .i64 1)], none⟩, ⟨some 2, .plain .mv, [.lit (.int .i64 0)], none⟩, ⟨some 3, .plain .mv, [.tmp 6], none⟩] [4, 5, 6]) (.block 0 (.loop (.seq (.seq (.ops [⟨some 7, .plain .mv, [.tmp 2], none⟩, ⟨some 8, .plain .mv, [.tmp 3], none⟩, ⟨some 9, .plain (.bin .lss), [.tmp 7, .tmp 8], none⟩] [7, 8]) (.cond (.tmp 9) .skip (.exit 0))) (.seq (.block 1 (.draw (.step ⟨some 14, .plain .mv, [.tmp 0], none⟩ (.step ⟨some 15, .plain .mv, [.tmp 2], none⟩ (.step ⟨some 16, .plain .mv, [.tmp 0], none⟩ (.step ⟨some 17, .plain .mv, [.tmp 3], none⟩ (.step ⟨some 18, .plain .mv, [.tmp 0], none⟩ (.step ⟨some 19, .plain .mv, [.tmp 3], none⟩ (.step ⟨some 20, .plain (.indexAddr 1), [.tmp 18, .tmp 19], none⟩ (.step ⟨some 21, .plain (.load false 1), [.tmp 20], none⟩ (.step ⟨some 22, .plain .mv, [.tmp 0], none⟩ (.step ⟨some 23, .plain .mv, [.tmp 2], none⟩ (.step ⟨some 24, .plain (.indexAddr 1), [.tmp 22, .tmp 23], none⟩ (.step ⟨some 25, .plain (.load false 1), [.tmp 24], none⟩ (.step ⟨some 26, .plain (.indexAddr 1), [.tmp 14, .tmp 15], none⟩ (.step ⟨none, .plain (.store 1), [.tmp 26, .tmp 21], none⟩ (.step ⟨some 27, .plain (.indexAddr 1), [.tmp 16, .tmp 17], none⟩ (.step ⟨none, .plain (.store 1), [.tmp 27, .tmp 25], none⟩ .done)))))))))))))))) [14, 15, 16, 17, 18, 19, 20, 21, 22, 23, 24, 25, 26, 27])) (.ops [⟨some 10, .plain .mv, [.tmp 2], none⟩, ⟨some 11, .plain (.bin .add), [.tmp 10, .lit (.int .i64 1)], none⟩, ⟨some 12, .plain .mv, [.tmp 3], none⟩, ⟨some 13, .plain (.bin .sub), [.tmp 12, .lit (.int .i64 1)], none⟩, ⟨some 2, .plain .mv, [.tmp 11], none⟩, ⟨some 3, .plain .mv, [.tmp 13], none⟩] [10, 11, 12, 13]))))))
def cr324 : List Res := []
theorem ok324 : FOk Bk.pg.toProgram Bk.imp 324 c324 cr324 Tryz.f324.ntmps := ⟨Tryz.f324, _, Tryz.func324, rfl, by kernel_rfl, by kernel_rfl, by kernel_rfl, rfl⟩
def c169 : SC :=
 (.seq (.ops [⟨some 2, .plain (.box 3), [.tmp 0], none⟩, ⟨some 3, .plain (.box 3), [.tmp 1], none⟩, ⟨some 4, .plain (.alloc [.nilS, (.bool false), (.int .i64 0)]), [], none⟩] []) (.seq (.draw (.step ⟨some 5, .plain (.fieldAddr 0), [.tmp 2], none⟩ (.step ⟨some 6, .plain (.load false 1), [.tmp 5], none⟩ (.step ⟨some 7, .plain (.fieldAddr 0), [.tmp 3], none⟩ (.step ⟨some 8, .plain (.load false 1), [.tmp 7], none⟩ (.step ⟨some 9, .call 254, [.tmp 6, .tmp 8], none⟩ (.step ⟨some 10, .plain (.fieldAddr 1), [.tmp 2], none⟩ (.step ⟨some 11, .plain (.load false 1), [.tmp 10], none⟩ (.step ⟨some 12, .plain (.fieldAddr 1), [.tmp 3], none⟩ (.step ⟨some 13, .plain (.load false 1), [.tmp 12], none⟩ (.step ⟨some 14, .plain (.eqBool true), [.tmp 11, .tmp 13], none⟩ (.step ⟨some 15, .plain (.fieldAddr 2), [.tmp 2], none⟩ (.step ⟨some 16, .plain (.load false 1), [.tmp 15], none⟩ (.step ⟨some 17, .plain (.fieldAddr 2), [.tmp 3], none⟩ (.step ⟨some 18, .plain (.load false 1), [.tmp 17], none⟩ (.step ⟨some 19, .plain (.bin .add), [.tmp 16, .tmp 18], none⟩ (.step ⟨some 20, .plain (.build [.nilS, (.bool false), (.int .i64 0)] [(0, 1), (1, 1), (2, 1)]), [.tmp 9, .tmp 14, .tmp 19], none⟩ (.step ⟨none, .plain (.store 3), [.tmp 4, .tmp 20], none⟩ .done))))))))))))))))) [5, 6, 7, 8, 9, 10, 11, 12, 13, 14, 15, 16, 17, 18, 19, 20]) .ret))
def cr169 : List Res := [(4, some (true, 3))]
theorem ok169 : FOk Bk.pg.toProgram Bk.imp 169 c169 cr169 Tryz.f169.ntmps := ⟨Tryz.f169, _, Tryz.func169, rfl, by kernel_rfl, by kernel_rfl, by kernel_rfl, rfl⟩
def c165 : SC :=
 let s0 : DT := (.step ⟨some 32, .plain (.fieldAddr 2), [.tmp 3], none⟩ (.step ⟨none, .plain (.store 1), [.tmp 32, .tmp 30], none⟩ .done))
 (.seq (.ops [⟨some 1, .plain (.box 4), [.tmp 0], none⟩, ⟨some 2, .plain (.alloc [.nilS, (.bool false), (.int .i64 0)]), [], none⟩] []) (.seq (.draw (.step ⟨some 4, .plain (.fieldAddr 1), [.tmp 1], none⟩ (.step ⟨some 5, .plain (.load false 1), [.tmp 4], none⟩ (.step ⟨some 6, .plain (.fieldAddr 1), [.tmp 1], none⟩ (.step ⟨some 7, .plain (.load false 1), [.tmp 6], none⟩ (.step ⟨some 8, .plain (.un .neg), [.tmp 7], none⟩ (.step ⟨some 9, .plain .max2, [.tmp 5, .tmp 8], none⟩ (.step ⟨some 10, .call 52, [.tmp 9], none⟩ (.step ⟨some 11, .plain (.fieldAddr 1), [.tmp 1], none⟩ (.step ⟨some 12, .plain (.load false 1), [.tmp 11], none⟩ (.step ⟨some 13, .plain (.bin .lss), [.tmp 12, .lit (.int .i64 0)], none⟩ (.step ⟨some 14, .plain (.build [.nilS, (.bool false), (.int .i64 0)] [(0, 1), (1, 1)]), [.tmp 10, .tmp 13], none⟩ (.step ⟨some 3, .plain (.alloc [.nilS, (.bool false), (.int .i64 0)]), [], none⟩ (.step ⟨none, .plain (.store 3), [.tmp 3, .tmp 14], none⟩ .done))))))))))))) [4, 5, 6, 7, 8, 9, 10, 11, 12, 13, 14]) (.seq (.seq (.ops [⟨some 15, .plain (.fieldAddr 0), [.tmp 1], none⟩, ⟨some 16, .plain (.load false 1), [.tmp 15], none⟩] [15]) (.block 0 (.seq (.ops [⟨some 21, .plain (.bin .eql), [.tmp 16, .lit (.int .i64 1)], none⟩, ⟨some 20, .plain .mv, [.tmp 21], none⟩] [21]) (.cond (.tmp 20) (.draw (.step ⟨some 22, .plain (.fieldAddr 0), [.tmp 3], none⟩ (.step ⟨some 23, .plain (.load false 1), [.tmp 22], none⟩ (.step ⟨some 24, .plain (.fieldAddr 2), [.tmp 1], none⟩ (.step ⟨some 25, .plain (.load false 1), [.tmp 24], none⟩ (.step ⟨some 26, .call 255, [.lit (.int .i64 5), .tmp 25], none⟩ (.step ⟨some 27, .call 254, [.tmp 23, .tmp 26], none⟩ (.step ⟨some 28, .plain (.fieldAddr 2), [.tmp 1], none⟩ (.step ⟨some 31, .plain (.fieldAddr 0), [.tmp 3], none⟩ (.or (.step ⟨some 29, .plain (.load false 1), [.tmp 28], none⟩ (.step ⟨some 30, .plain (.un .neg), [.tmp 29], none⟩ (.step ⟨none, .plain (.store 1), [.tmp 31, .tmp 27], none⟩ s0))) (.step ⟨none, .plain (.store 1), [.tmp 31, .tmp 27], none⟩ (.step ⟨some 29, .plain (.load false 1), [.tmp 28], none⟩ (.step ⟨some 30, .plain (.un .neg), [.tmp 29], none⟩ s0)))))))))))) [22, 23, 24, 25, 26, 27, 28, 31, 29, 30, 32]) (.seq (.ops [⟨some 34, .plain (.bin .eql), [.tmp 16, .lit (.int .i64 2)], none⟩, ⟨some 33, .plain .mv, [.tmp 34], none⟩] [34]) (.cond (.tmp 33) (.ops [⟨some 35, .plain (.fieldAddr 2), [.tmp 1], none⟩, ⟨some 36, .plain (.load false 1), [.tmp 35], none⟩, ⟨some 37, .plain (.un .neg), [.tmp 36], none⟩, ⟨some 38, .plain (.fieldAddr 2), [.tmp 3], none⟩, ⟨none, .plain (.store 1), [.tmp 38, .tmp 37], none⟩] [35, 36, 37, 38]) (.ops [⟨some 17, .plain (.fieldAddr 2), [.tmp 1], none⟩, ⟨some 18, .plain (.load false 1), [.tmp 17], none⟩, ⟨some 19, .plain (.fieldAddr 2), [.tmp 3], none⟩, ⟨none, .plain (.store 1), [.tmp 19, .tmp 18], none⟩] [17, 18, 19]))))))) (.seq (.ops [⟨some 39, .plain (.load true 3), [.tmp 3], none⟩, ⟨none, .plain (.store 3), [.tmp 2, .tmp 39], none⟩] [39]) .ret))))
def cr165 : List Res := [(2, some (true, 3))]
theorem ok165 : FOk Bk.pg.toProgram Bk.imp 165 c165 cr165 Tryz.f165.ntmps := ⟨Tryz.f165, _, Tryz.func165, rfl, by kernel_rfl, by kernel_rfl, by kernel_rfl, rfl⟩
def cr251 : List Res := [(4, some (true, 3)), (5, some (true, 3))]
def c323 : SC :=
 (.seq (.ops [⟨some 2, .plain (.box 3), [.tmp 0], none⟩, ⟨some 3, .plain (.alloc [.nilS, (.bool false), (.int .i64 0)]), [], none⟩] []) (.seq (.ops [⟨some 4, .plain (.fieldAddr 0), [.tmp 2], none⟩, ⟨some 5, .plain (.load false 1), [.tmp 4], none⟩, ⟨some 6, .plain (.fieldAddr 2), [.tmp 2], none⟩, ⟨some 7, .plain (.load false 1), [.tmp 6], none⟩, ⟨some 8, .plain (.load false 1), [.tmp 1], none⟩, ⟨some 9, .plain (.bin .sub), [.tmp 7, .tmp 8], none⟩, ⟨some 10, .call 243, [.tmp 5, .tmp 9], none⟩, ⟨some 11, .plain (.fieldAddr 0), [.tmp 2], none⟩, ⟨none, .plain (.store 1), [.tmp 11, .tmp 10], none⟩] [4, 5, 6, 7, 8, 9, 10, 11]) (.seq (.ops [⟨some 12, .plain (.load false 1), [.tmp 1], none⟩, ⟨some 13, .plain (.fieldAddr 2), [.tmp 2], none⟩, ⟨none, .plain (.store 1), [.tmp 13, .tmp 12], none⟩] [12, 13]) (.seq (.ops [⟨some 14, .plain (.load true 3), [.tmp 2], none⟩, ⟨none, .plain (.store 3), [.tmp 3, .tmp 14], none⟩] [14]) .ret))))
def cr323 : List Res := [(3, some (true, 3))]
theorem ok323 : FOk Bk.pg.toProgram Bk.imp 323 c323 cr323 Tryz.f323.ntmps := ⟨Tryz.f323, _, Tryz.func323, rfl, by kernel_rfl, by kernel_rfl, by kernel_rfl, rfl⟩
def c318 : SC :=
 (.seq (.ops [⟨some 2, .plain (.box 3), [.tmp 0], none⟩, ⟨some 3, .plain (.box 6), [.tmp 1], none⟩, ⟨some 4, .plain (.alloc [(.int .i64 0)]), [], none⟩, ⟨some 5, .plain .mv, [.lit (.bool false)], none⟩] []) (.seq (.ops [⟨some 9, .plain (.fieldAddr 0), [.tmp 2], none⟩, ⟨some 10, .plain (.load false 1), [.tmp 9], none⟩, ⟨some 6, .plain .mv, [.tmp 10], none⟩] [9, 10]) (.seq (.seq (.ops [⟨some 11, .plain (.fieldAddr 0), [.tmp 3], none⟩, ⟨some 12, .plain (.load false 1), [.tmp 11], none⟩, ⟨some 13, .plain (.bin .eql), [.tmp 12, .lit (.int .i64 1)], none⟩] [11, 12]) (.cond (.tmp 13) (.ops [⟨some 14, .plain .mv, [.tmp 6], none⟩, ⟨some 15, .plain (.fieldAddr 2), [.tmp 3], none⟩, ⟨some 16, .plain (.load false 1), [.tmp 15], none⟩, ⟨some 17, .call 255, [.lit (.int .i64 2), .tmp 16], none⟩, ⟨some 18, .call 254, [.tmp 14, .tmp 17], none⟩, ⟨some 6, .plain .mv, [.tmp 18], none⟩] [14, 15, 16, 17, 18]) .skip)) (.seq (.ops [⟨some 19, .plain (.fieldAddr 2), [.tmp 2], none⟩, ⟨some 20, .plain (.load false 1), [.tmp 19], none⟩, ⟨some 7, .plain .mv, [.tmp 20], none⟩] [19, 20]) (.seq (.seq (.ops [⟨some 21, .plain (.fieldAddr 0), [.tmp 3], none⟩, ⟨some 22, .plain (.load false 1), [.tmp 21], none⟩, ⟨some 23, .plain (.bin .eql), [.tmp 22, .lit (.int .i64 2)], none⟩] [21, 22]) (.cond (.tmp 23) (.ops [⟨some 24, .plain .mv, [.tmp 7], none⟩, ⟨some 25, .plain (.fieldAddr 2), [.tmp 3], none⟩, ⟨some 26, .plain (.load false 1), [.tmp 25], none⟩, ⟨some 27, .plain (.bin .add), [.tmp 24, .tmp 26], none⟩, ⟨some 7, .plain .mv, [.tmp 27], none⟩] [24, 25, 26, 27]) .skip)) (.seq (.seq (.ops [⟨some 28, .plain .mv, [.tmp 7], none⟩, ⟨some 29, .plain (.bin .lss), [.tmp 28, .lit (.int .i64 0)], none⟩] [28]) (.cond (.tmp 29) (.ops [⟨some 30, .plain .mv, [.tmp 6], none⟩, ⟨some 31, .plain .mv, [.tmp 7], none⟩, ⟨some 32, .plain (.un .neg), [.tmp 31], none⟩, ⟨some 33, .call 244, [.tmp 30, .tmp 32], none⟩, ⟨some 6, .plain .mv, [.tmp 33], none⟩] [30, 31, 32, 33]) (.ops [⟨some 34, .plain .mv, [.tmp 6], none⟩, ⟨some 35, .plain .mv, [.tmp 7], none⟩, ⟨some 36, .call 243, [.tmp 34, .tmp 35], none⟩, ⟨some 6, .plain .mv, [.tmp 36], none⟩] [34, 35, 36]))) (.seq (.seq (.ops [⟨some 37, .plain (.fieldAddr 0), [.tmp 3], none⟩, ⟨some 38, .plain (.load false 1), [.tmp 37], none⟩, ⟨some 39, .plain (.bin .eql), [.tmp 38, .lit (.int .i64 2)], none⟩] [37, 38]) (.cond (.tmp 39) (.seq (.ops [⟨some 40, .plain .mv, [.tmp 6], none⟩, ⟨some 41, .plain (.len 1), [.tmp 40], none⟩, ⟨some 42, .plain (.fieldAddr 1), [.tmp 3], none⟩, ⟨some 43, .plain (.load false 1), [.tmp 42], none⟩, ⟨some 44, .plain (.bin .gtr), [.tmp 41, .tmp 43], none⟩, ⟨some 5, .plain .mv, [.tmp 44], none⟩] [40, 41, 42, 43, 44]) (.ops [⟨some 45, .plain .mv, [.tmp 6], none⟩, ⟨some 46, .plain .mv, [.tmp 6], none⟩, ⟨some 47, .plain (.len 1), [.tmp 46], none⟩, ⟨some 48, .plain (.fieldAddr 1), [.tmp 3], none⟩, ⟨some 49, .plain (.load false 1), [.tmp 48], none⟩, ⟨some 50, .plain .min2, [.tmp 47, .tmp 49], none⟩, ⟨some 51, .plain (.slice false true 1), [.tmp 45, .tmp 50], none⟩, ⟨some 52, .call 245, [.tmp 51], none⟩, ⟨none, .plain (.store 1), [.tmp 4, .tmp 52], none⟩] [45, 46, 47, 48, 49, 50, 51, 52])) (.seq (.ops [⟨some 53, .plain .mv, [.tmp 6], none⟩, ⟨some 54, .plain (.fieldAddr 1), [.tmp 3], none⟩, ⟨some 55, .plain (.load false 1), [.tmp 54], none⟩, ⟨some 56, .call 255, [.lit (.int .i64 2), .tmp 55], none⟩, ⟨some 57, .call 257, [.tmp 53, .tmp 56], none⟩, ⟨some 58, .plain (.bin .geq), [.tmp 57, .lit (.int .i64 0)], none⟩, ⟨some 5, .plain .mv, [.tmp 58], none⟩] [53, 54, 55, 56, 57, 58]) (.seq (.ops [⟨some 59, .plain .mv, [.tmp 6], none⟩, ⟨some 60, .call 321, [.tmp 59], none⟩] [59]) (.block 0 (.rangeF (.tmp 60) [61] (.ops [⟨some 8, .plain .mv, [.tmp 61], none⟩] []) (.block 1 (.draw (.step ⟨some 62, .plain (.load false 1), [.tmp 4], none⟩ (.step ⟨some 63, .plain (.bin .mul), [.tmp 62, .lit (.int .i64 10)], none⟩ (.step ⟨some 64, .plain .mv, [.tmp 8], none⟩ (.step ⟨some 65, .plain (.convInt .i64), [.tmp 64], none⟩ (.step ⟨some 66, .plain (.bin .add), [.tmp 63, .tmp 65], none⟩ (.step ⟨some 67, .plain (.fieldAddr 1), [.tmp 3], none⟩ (.step ⟨some 68, .plain (.load false 1), [.tmp 67], none⟩ (.step ⟨some 69, .plain (.bin .shl), [.lit (.int .i64 1), .tmp 68], none⟩ (.step ⟨some 70, .plain (.bin .sub), [.tmp 69, .lit (.int .i64 1)], none⟩ (.step ⟨some 71, .plain (.bin .and), [.tmp 66, .tmp 70], none⟩ (.step ⟨none, .plain (.store 1), [.tmp 4, .tmp 71], none⟩ .done))))))))))) [62, 63, 64, 65, 66, 67, 68, 69, 70, 71])))))))) (.seq (.seq (.ops [⟨some 72, .plain (.fieldAddr 1), [.tmp 2], none⟩, ⟨some 73, .plain (.load false 1), [.tmp 72], none⟩] [72]) (.cond (.tmp 73) (.ops [⟨some 74, .plain (.load false 1), [.tmp 4], none⟩, ⟨some 75, .plain (.un .neg), [.tmp 74], none⟩, ⟨none, .plain (.store 1), [.tmp 4, .tmp 75], none⟩] [74, 75]) .skip)) (.seq (.ops [⟨some 76, .plain (.load false 1), [.tmp 4], none⟩, ⟨some 77, .plain .mv, [.tmp 5], none⟩, ⟨none, .plain (.store 1), [.tmp 4, .tmp 76], none⟩, ⟨some 5, .plain .mv, [.tmp 77], none⟩] [76, 77]) .ret)))))))))
def cr318 : List Res := [(4, some (false, 1)), (5, none)]
theorem ok318 : FOk Bk.pg.toProgram Bk.imp 318 c318 cr318 Tryz.f318.ntmps := ⟨Tryz.f318, _, Tryz.func318, rfl, by kernel_rfl, by kernel_rfl, by kernel_rfl, rfl⟩
def c238 : SC :=
 (.seq (.ops [⟨some 3, .plain (.box 3), [.tmp 0], none⟩, ⟨some 4, .plain (.box 6), [.tmp 1], none⟩, ⟨some 6, .plain (.alloc [(.int .i64 0), (.int .i64 0), (.int .i64 0), (.str ⟨#[]⟩)]), [], none⟩, ⟨some 7, .plain .mv, [.lit (.int .i64 0)], none⟩] []) (.seq (.seq (.ops [⟨some 10, .plain (.fieldAddr 0), [.tmp 4], none⟩, ⟨some 11, .plain (.load false 1), [.tmp 10], none⟩, ⟨some 12, .plain (.bin .eql), [.tmp 11, .lit (.int .i64 3)], none⟩] [10, 11]) (.cond (.tmp 12) (.seq (.ops [⟨some 13, .plain (.load true 3), [.tmp 3], none⟩, ⟨some 14, .plain (.fieldAddr 1), [.tmp 4], none⟩, ⟨some 15, .plain (.load false 1), [.tmp 14], none⟩, ⟨some 16, .call 317, [.tmp 13, .tmp 15], none⟩, ⟨some 17, .plain (.extract 0), [.tmp 16], none⟩, ⟨some 18, .plain (.extract 1), [.tmp 16], none⟩, ⟨none, .plain (.store 4), [.tmp 6, .tmp 17], none⟩, ⟨some 7, .plain .mv, [.tmp 18], none⟩] [13, 14, 15, 16, 17, 18]) .ret) .skip)) (.seq (.ops [⟨some 20, .plain (.load true 3), [.tmp 3], none⟩, ⟨some 21, .plain (.load true 6), [.tmp 4], none⟩, ⟨some 22, .call 318, [.tmp 20, .tmp 21], none⟩, ⟨some 19, .plain .mv, [.tmp 22], none⟩, ⟨some 23, .plain (.extract 0), [.tmp 19], none⟩, ⟨some 24, .plain (.extract 1), [.tmp 19], none⟩, ⟨some 8, .plain .mv, [.tmp 23], none⟩, ⟨some 9, .plain .mv, [.tmp 24], none⟩] [20, 21, 22, 19, 23, 24]) (.seq (.seq (.ops [⟨some 25, .plain .mv, [.tmp 9], none⟩, ⟨some 26, .plain (.un .not), [.tmp 25], none⟩] [25]) (.cond (.tmp 26) (.ops [⟨some 2, .plain .mv, [.lit (.int .i64 0)], none⟩] []) .skip)) (.seq (.ops [⟨some 27, .plain (.fieldAddr 0), [.tmp 4], none⟩, ⟨some 28, .plain (.load false 1), [.tmp 27], none⟩, ⟨some 29, .plain .mv, [.tmp 8], none⟩, ⟨some 30, .plain (.fieldAddr 2), [.tmp 4], none⟩, ⟨some 31, .plain (.load false 1), [.tmp 30], none⟩, ⟨some 32, .plain (.build [(.int .i64 0), (.int .i64 0), (.int .i64 0), (.str ⟨#[]⟩)] [(0, 1), (1, 1), (2, 1)]), [.tmp 28, .tmp 29, .tmp 31], none⟩, ⟨some 33, .plain .mv, [.tmp 2], none⟩, ⟨none, .plain (.store 4), [.tmp 6, .tmp 32], none⟩, ⟨some 7, .plain .mv, [.tmp 33], none⟩] [27, 28, 29, 30, 31, 32, 33]) .ret)))))
def cr238 : List Res := [(6, some (true, 4)), (7, none)]
theorem ok238 : FOk Bk.pg.toProgram Bk.imp 238 c238 cr238 Tryz.f238.ntmps := ⟨Tryz.f238, _, Tryz.func238, rfl, by kernel_rfl, by kernel_rfl, by kernel_rfl, rfl⟩
def c49 : SC :=
 (.seq (.ops [⟨some 6, .plain .mv, [.lit (.bool false)], none⟩] []) (.seq (.ops [⟨some 7, .plain .mv, [.tmp 0], none⟩, ⟨some 8, .plain .mv, [.tmp 1], none⟩, ⟨some 9, .plain (.bin .geq), [.tmp 7, .tmp 8], none⟩, ⟨some 10, .plain .mv, [.tmp 9], none⟩, ⟨some 11, .plain .mv, [.tmp 0], (some (10, true))⟩, ⟨some 12, .plain .mv, [.tmp 2], (some (10, true))⟩, ⟨some 13, .plain (.bin .leq), [.tmp 11, .tmp 12], (some (10, true))⟩, ⟨some 14, .plain .pick, [.tmp 10, .tmp 13, .lit (.bool false)], none⟩, ⟨some 6, .plain .mv, [.tmp 14], none⟩] [7, 8, 9, 10, 11, 12, 13, 14]) .ret))
def cr49 : List Res := [(6, none)]
theorem ok49 : FOk Bk.pg.toProgram Bk.imp 49 c49 cr49 Tryz.f49.ntmps := ⟨Tryz.f49, _, Tryz.func49, rfl, by kernel_rfl, by kernel_rfl, by kernel_rfl, rfl⟩
def c242 : SC :=
 (.seq (.ops [⟨some 2, .plain .mv, [.lit (.bool false)], none⟩] []) (.seq (.ops [⟨some 3, .plain .mv, [.tmp 0], none⟩, ⟨some 4, .call 49, [.tmp 3, .lit (.int .i64 1), .lit (.int .i64 3)], none⟩, ⟨some 2, .plain .mv, [.tmp 4], none⟩] [3, 4]) .ret))
def cr242 : List Res := [(2, none)]
theorem ok242 : FOk Bk.pg.toProgram Bk.imp 242 c242 cr242 Tryz.f242.ntmps := ⟨Tryz.f242, _, Tryz.func242, rfl, by kernel_rfl, by kernel_rfl, by kernel_rfl, rfl⟩
end Go.Pm

/- BkC1: contracts: digits of a number, without zeros above, how two compare. -/
namespace Go.Pm
open Go Go.Proofs
attribute [-simp] List.getElem?_map
theorem app_dig {L : List (List AV)} {x : AV} {k g nx : Nat} (hL : L.length = k) (hk : k ≤ 140737488355327) : appendA 5 1 1 ⟨[(g, .row 5 1 L), (nx, .row 5 1 [[x]])], nx + 1⟩ (.row 0 g 1 0 k) (.row 1 nx 1 0 1) = some (.row 0 (nx + 1) 1 0 (k + 1), ⟨[(nx + 1, .row 5 1 (L ++ [[x]])), (nx, .row 5 1 [[x]])], nx + 2⟩) := by
  subst hL
  have h2 : L.length + 1 ≤ 9223372036854775807 := by omega
  simp [appendA, appendN, elsOf, Mem.obj, Mem.turn, h2]
  omega
theorem app_list {L ys : List (List AV)} {k g nx : Nat} (hL : L.length = k) (hk : k + ys.length ≤ 140737488355327) : appendA 5 1 1 ⟨[(g, .row 5 1 L)], nx⟩ (.row 0 g 1 0 k) (.list true 1 ys) = some (.row 0 nx 1 0 (k + ys.length), ⟨[(nx, .row 5 1 (L ++ ys))], nx + 1⟩) := by
  subst hL
  have h2 : L.length + ys.length ≤ 9223372036854775807 := by omega
  simp [appendA, appendN, elsOf, Mem.obj, Mem.turn, h2]
  omega
theorem wrap8 {n : Int} (h0 : 0 ≤ n) (h : n < 256) : IntKind.u8.wrap n = n := by
  simp [IntKind.wrap, IntKind.signed, IntKind.bits]
  omega
theorem call52 (n : Nat) (hn : n ≤ 9223372036854775807) : PCalls Bk.pg 52 [.int .i64 n] fun out => out = .ret (.list true 1 (dl (digs n))) := by
  refine ok52.pcalls (by simp) ?_
  simp [c52]
  refine wpS_loopS (ι := List Nat × Nat × Nat × Nat) (fun g => [(0, .int .i64 (g.2.1 : Nat)), (3, .row 0 g.2.2.1 1 0 g.1.length)]) (fun g => ⟨[(g.2.2.1, .row 5 1 (dl g.1))], g.2.2.2⟩) (fun g => g.2.1)
    (fun g => g.1 ++ digs g.2.1 = digs n ∧ g.2.1 ≤ 9223372036854775807) ([], n, 0, 1) ⟨rfl, hn⟩ (Sim.trans (Sim.of_le (Env.le_of (by simp)) (Mem.le_of rfl (by simp))) (Sim.nil_env 3 5 (sz := 1) (by decide) (by simp))) ?_
  rintro ⟨L, r, g, nx⟩ ⟨hL, hr⟩
  simp only at hL hr
  have hlen : (digs n).length ≤ 19 := digs_len 19 n (by omega)
  have hLlen : L.length ≤ 19 := by rw [← hL, List.length_append] at hlen; omega
  simp
  refine br_cond rfl (fun h => ?_) (fun h => ?_)
  · have hpos : 0 < r := by have := ltI_t.1 h; omega
    have e1 : IntKind.u8.wrap ((r : Int).tmod 10) = ((r % 10 : Nat) : Int) := by
      rw [Int.tmod_eq_emod_of_nonneg (by omega), wrap8 (by omega) (by omega)]; omega
    have e2 : IntKind.i64.wrap ((r : Int) / 10) = (r : Int) / 10 := wrap64 (by omega) (by omega)
    simp
    rw [app_dig (dl_len L) (by omega), e1]
    simp [e2]
    refine ⟨L ++ [r % 10], r / 10, ⟨?_, by omega⟩, by omega, nx + 1, nx + 2, Sim.of_le (Env.le_of (by simp)) (Mem.le_of rfl ?_)⟩
    · rw [← hL, digs_pos hpos]; simp
    · simp [dl]
  · have h0 : r = 0 := by have := ltI_f.1 h; omega
    subst h0
    rw [digs_zero, List.append_nil] at hL
    simp [cr52]
    have e : (dl L).take L.length = dl L := List.take_of_length_le (by simp)
    rw [e]
    exact ⟨dl_perm L, by rw [hL]⟩
theorem trimD_take {l : List Nat} {k : Nat} (h : k < l.length) (h0 : ix l k = 0) : trimD (l.take (k + 1)) = trimD (l.take k) := by
  rw [take_ix h, h0, trimD_snoc0]
theorem trimD_take' {l : List Nat} {k : Nat} (h : k < l.length) (h0 : ix l k ≠ 0) : trimD (l.take (k + 1)) = l.take (k + 1) := by
  rw [take_ix h, trimD_snoc h0]
theorem call259 (l : List Nat) (hl : l.length ≤ 140737488355327) : PCalls Bk.pg 259 [.list true 1 (dl l)] fun out => out = .ret (.list true 1 (dl (trimD l))) := by
  refine ok259.pcalls (by simp) ?_
  simp [c259]
  refine wpS_loop (ι := Nat) (fun k => [(0, .list true 1 (dl (l.take k)))]) (fun _ => ⟨[], 0⟩) (fun k => k)
    (fun k => k ≤ l.length ∧ trimD (l.take k) = trimD l) l.length ⟨Nat.le_refl _, by rw [List.take_length]⟩ (Env.le_of (by simp)) (by simp) ?_
  rintro k ⟨hk, ht⟩
  have e : (l.take k).length = k := by rw [List.length_take]; omega
  simp [e]
  refine br_guard_t rfl (fun h => ?_) (fun h => ?_)
  · obtain ⟨j, hj⟩ : ∃ j, k = j + 1 := ⟨k - 1, by have := ltI_t.1 h; omega⟩
    have hw : IntKind.i64.wrap ((k : Int) - 1) = j := by rw [wrap64 (by omega) (by omega)]; omega
    have hix : (dl (l.take k))[j]? = some [AV.int .u8 ((ix l j : Nat) : Int)] := by
      rw [dl_ix (ltN (by omega))]
      simp [ix, List.getD, List.getElem?_take, hj]
    simp [h, hw, hix, e]
    refine br_cond rfl (fun h2 => ?_) (fun h2 => ?_)
    · have h0 : ix l j = 0 := by have := eqI_t.1 h2; omega
      have hs : sliceA false true 1 [.list true 1 (dl (l.take k)), .int .i64 j] = some (.list true 1 (dl (l.take j))) := by
        have h1 : j ≤ l.length := by omega
        have h2 : min j k = j := by omega
        have h3 : j ≤ min k l.length := by omega
        simp [sliceA, boundsA, dl_take, List.take_take, h2, h3]
      simp [e, hw, hs]
      refine ⟨j, ⟨by omega, ?_⟩, by omega, Env.le_of (by simp), Mem.le_of rfl (by simp)⟩
      rw [← ht, hj, trimD_take (by omega) h0]
    · have h0 : ix l j ≠ 0 := fun h0 => by rw [h0] at h2; cases h2
      simp [cr259]
      rw [← ht, hj, trimD_take' (by omega) h0]
  · have h0 : k = 0 := by have := ltI_f.1 h; omega
    have : trimD l = [] := by rw [← ht, h0]; rfl
    simp [h]
    simp [cr259, this, h0]
def cmpAux (a b : List Nat) : Nat → Int
  | 0 => 0
  | k + 1 => if ix a k = ix b k then cmpAux a b k else ((ix a k : Nat) : Int) - ((ix b k : Nat) : Int)
def cmpD (a b : List Nat) : Int := if a.length = b.length then cmpAux a b a.length else (a.length : Int) - b.length
theorem call257 (a b : List Nat) (ha : a.length ≤ 140737488355327) (hb : b.length ≤ 140737488355327) (da : Dg a) (db : Dg b) : PCalls Bk.pg 257 [.list true 1 (dl a), .list true 1 (dl b)] fun out => out = .ret (.int .i64 (cmpD a b)) := by
  refine ok257.pcalls (by simp) ?_
  simp [c257]
  refine br_cond rfl (fun h => ?_) (fun h => ?_)
  · have h' : a.length ≠ b.length := fun h1 => by rw [h1] at h; simp [eqI] at h
    have hw : IntKind.i64.wrap ((a.length : Int) - b.length) = (a.length : Int) - b.length := wrap64 (by omega) (by omega)
    simp [cr257, hw, cmpD, h']
  have h' : a.length = b.length := by have := eqI_t.1 (by simpa using h); omega
  have hw0 : IntKind.i64.wrap ((a.length : Int) - 1) = (a.length : Int) - 1 := wrap64 (by omega) (by omega)
  simp [hw0]
  refine wpS_loop (ι := Nat) (fun k => [(0, .list true 1 (dl a)), (1, .list true 1 (dl b)), (5, .int .i64 ((k : Int) - 1))]) (fun _ => ⟨[], 0⟩) (fun k => k)
    (fun k => k ≤ a.length ∧ cmpAux a b k = cmpAux a b a.length) a.length ⟨Nat.le_refl _, rfl⟩ (Env.le_of (by simp)) (by simp) ?_
  rintro k ⟨hk, ht⟩
  simp
  refine br_cond rfl (fun h => ?_) (fun h => ?_)
  · obtain ⟨j, rfl⟩ : ∃ j, k = j + 1 := ⟨k - 1, by have := leI_t.1 h; omega⟩
    have e1 : (((j + 1 : Nat) : Int) - 1) = j := by omega
    simp only [e1] at h ⊢
    have ea := dl_ix (l := a) (ltN (i := j) (by omega))
    have eb := dl_ix (l := b) (ltN (i := j) (by omega))
    simp [ea, eb]
    have hda : ix a j < 10 := da _ (ix_mem (by omega))
    have hdb : ix b j < 10 := db _ (ix_mem (by omega))
    have wa : IntKind.i64.wrap ((ix a j : Nat) : Int) = (ix a j : Nat) := wrap64 (by omega) (by omega)
    have wb : IntKind.i64.wrap ((ix b j : Nat) : Int) = (ix b j : Nat) := wrap64 (by omega) (by omega)
    have wc : IntKind.i64.wrap (((ix a j : Nat) : Int) - (ix b j : Nat)) = ((ix a j : Nat) : Int) - (ix b j : Nat) := wrap64 (by omega) (by omega)
    have wj : IntKind.i64.wrap ((j : Int) - 1) = (j : Int) - 1 := wrap64 (by omega) (by omega)
    refine br_cond rfl (fun h2 => ?_) (fun h2 => ?_)
    · have hne : ix a j ≠ ix b j := fun h3 => by rw [h3] at h2; simp [eqI] at h2
      have hc : cmpD a b = ((ix a j : Nat) : Int) - (ix b j : Nat) := by
        rw [cmpD, if_pos h', ← ht, cmpAux, if_neg hne]
      simp [ea, eb, wa, wb, wc, cr257, hc]
    · have heq : ix a j = ix b j := by have := eqI_t.1 (by simpa using h2); omega
      simp [wj]
      refine ⟨j, ⟨by omega, ?_⟩, by omega, Env.le_of (by simp), Mem.le_of rfl (by simp)⟩
      rw [← ht, cmpAux, if_pos heq]
  · have h0 : k = 0 := by have := leI_f.1 h; omega
    have hc : cmpD a b = 0 := by rw [cmpD, if_pos h', ← ht, h0]; rfl
    simp [cr257, hc]
theorem call320 (l : List Nat) (hl : l.length ≤ 140737488355327) : PCalls Bk.pg 320 [.list true 1 (dl l)] fun out => out = .ret (.list true 1 (dl l)) := by
  refine PCalls.nilRet (R := fun out => out = .ret (.list true 1 (dl l)) ∨ l = [] ∧ out = .ret .nilS) 1 ?_ ?_
  · refine ok320.pcalls (by simp) ?_
    simp [c320]
    split
    · rename_i h
      have h' : l = [] := by simpa [dl] using h
      subst h'
      simp [AllN, dl, cr320]
      rw [app_list (L := []) (ys := []) (k := 0) rfl (by decide)]
      simp
    · simp [AllN]
      rw [app_list (L := []) (ys := dl l) (k := 0) rfl (by simpa using hl)]
      simp [cr320]
      rw [List.take_of_length_le (by simp)]
      exact ⟨_, ⟨dl_perm l, rfl⟩, .inl rfl⟩
  · rintro out (rfl | ⟨rfl, rfl⟩)
    · exact .inl rfl
    · exact .inr ⟨rfl, rfl⟩
theorem call243 (l : List Nat) (n : Nat) (hn : n + l.length ≤ 140737488355327) : PCalls Bk.pg 243 [.list true 1 (dl l), .int .i64 n] fun out => out = .ret (.list true 1 (dl (if l = [] then [] else List.replicate n 0 ++ l))) := by
  refine PCalls.nilRet (R := fun out => l ≠ [] ∧ out = .ret (.list true 1 (dl (List.replicate n 0 ++ l))) ∨ l = [] ∧ out = .ret .nilS) 1 ?_ ?_
  · refine ok243.pcalls (by simp) ?_
    simp [c243]
    refine br_cond rfl (fun h => ?_) (fun h => ?_)
    · have h0 : l = [] := List.eq_nil_of_length_eq_zero (by have := eqI_t.1 h; omega)
      simp [cr243, h0]
    · have h0 : l ≠ [] := fun h0 => by rw [h0] at h; cases h
      have h1 : n ≤ 140737488355328 := by omega
      have h2 : (n : Int) ≤ 9223372036854775807 := by omega
      simp [h1, h2]
      rw [app_list (by simp) (by simpa using hn)]
      simp [cr243, h0]
      have e : List.replicate n [AV.int .u8 0] ++ dl l = dl (List.replicate n 0 ++ l) := by simp [dl]
      rw [e, List.take_of_length_le (by simp)]
      exact ⟨dl_perm _, rfl⟩
  · rintro out (⟨h, rfl⟩ | ⟨rfl, rfl⟩)
    · exact .inl (by rw [if_neg h])
    · exact .inr ⟨rfl, rfl⟩
theorem call244 (l : List Nat) (n : Nat) (hl : l.length ≤ 140737488355327) (hn : n ≤ 140737488355327) : PCalls Bk.pg 244 [.list true 1 (dl l), .int .i64 n] fun out => out = .ret (.list true 1 (dl (l.drop n))) := by
  have h320 := call320 (l.drop n) (by rw [List.length_drop]; omega)
  refine PCalls.nilRet (R := fun out => out = .ret (.list true 1 (dl (l.drop n))) ∨ l.drop n = [] ∧ out = .ret .nilS) 1 ?_ ?_
  · refine ok244.pcalls (by simp) ?_
    simp [c244]
    refine br_cond rfl (fun h => ?_) (fun h => ?_)
    · have h0 : l.length ≤ n := by have := leI_t.1 h; omega
      simp [cr244, h0]
    · have h0 : n ≤ l.length := by have := leI_f.1 h; omega
      have hs : sliceA true false 1 [.list true 1 (dl l), .int .i64 n] = some (.list true 1 (dl (l.drop n))) := by
        simp [sliceA, boundsA, h0, dl_drop]
        rw [List.take_of_length_le (by simp)]
      simp [hs]
      refine xcall_p h320 (by simp) ?_
      simp [cr244]
  · rintro out (rfl | ⟨h, rfl⟩)
    · exact .inl rfl
    · exact .inr ⟨rfl, by rw [h]; rfl⟩
theorem clone_row (l : List Nat) (hl : l.length ≤ 140737488355327) : ACalls Bk.pg 320 [.list true 1 (dl l)] ⟨[], 0⟩ fun out m' => l = [] ∧ out = .ret .nilS ∧ m' = ⟨[], 0⟩ ∨ out = .ret (.row 0 1 1 0 l.length) ∧ m' = ⟨[(1, .row 5 1 (dl l))], 2⟩ := by
  refine ok320.acalls (by simp) ?_
  simp [c320]
  split
  · rename_i h
    have h' : l = [] := by simpa [dl] using h
    subst h'
    simp [AllN, dl, cr320]
    rw [app_list (L := []) (ys := []) (k := 0) rfl (by decide)]
    simp
  · simp [AllN]
    rw [app_list (L := []) (ys := dl l) (k := 0) rfl (by simpa using hl)]
    simp [cr320]
def lessL : List Nat → List Nat → Nat → List Nat
  | [], _, _ => []
  | x :: a, b, c => if x < c + b.headD 0 then (x + 10 - (c + b.headD 0)) :: lessL a b.tail 1 else (x - (c + b.headD 0)) :: lessL a b.tail 0
theorem call253 (a b : List Nat) (ha : a.length ≤ 140737488355327) (hb : b.length ≤ 140737488355327) (da : Dg a) (db : Dg b) : PCalls Bk.pg 253 [.list true 1 (dl a), .list true 1 (dl b)] fun out => out = .ret (.list true 1 (dl (trimD (lessL a b 0)))) := by
  refine ok253.pcalls (by simp) ?_
  simp [c253]
  refine xcall_r (clone_row a ha) ?_ ?_
  · rintro v m' (⟨rfl, hv, rfl⟩ | ⟨hv, rfl⟩)
    · cases hv
      simp
      refine wpS_loopS (ι := Unit) (fun _ => [(5, .nilS), (12, .int .i64 0), (13, .int .i64 0)]) (fun _ => ⟨[], 0⟩) (fun _ => 0) (fun _ => True) () trivial (Sim.of_le (Env.le_of (by simp)) (Mem.le_of rfl (by simp))) ?_
      rintro _ _
      have z : ltI 0 0 = false := rfl
      simp [z]
      refine xcall_p (PCalls.sub (call259 [] (by simp)) (Sub.nil (Sub.refl []))) rfl ?_
      simp [cr253, lessL]
    · cases hv
      simp
      refine wpS_loopS (ι := Nat × List Nat × Nat) (fun s => [(1, .list true 1 (dl b)), (5, .row 0 1 1 0 a.length), (6, .int .u8 (s.2.2 : Nat)), (12, .int .i64 a.length), (13, .int .i64 (s.1 : Nat))]) (fun s => ⟨[(1, .row 5 1 (dl s.2.1))], 2⟩) (fun s => a.length - s.1)
        (fun s => s.1 ≤ a.length ∧ s.2.1.length = a.length ∧ s.2.1.drop s.1 = a.drop s.1 ∧ s.2.1.take s.1 ++ lessL (a.drop s.1) (b.drop s.1) s.2.2 = lessL a b 0 ∧ s.2.2 ≤ 1) (0, a, 0) ⟨Nat.zero_le _, rfl, rfl, rfl, Nat.zero_le _⟩ (Sim.of_le (Env.le_of (by simp)) (Mem.le_of rfl (by simp))) ?_
      rintro ⟨i, S, c⟩ ⟨hi, hS, hd, ht, hc⟩
      simp only at hi hS hd ht hc
      simp
      refine br_cond rfl (fun h => ?_) (fun h => ?_)
      · have hlt : i < a.length := by have := ltI_t.1 h; omega
        have hSd : (dl S)[i]? = some [AV.int .u8 ((ix S i : Nat) : Int)] := dl_ix (ltN (by omega))
        have hSa : ix S i = ix a i := by
          have h1 := drop_ix (l := S) (i := i) (by omega)
          have h2 := drop_ix (l := a) (i := i) hlt
          rw [h1, h2] at hd
          exact (List.cons.inj hd).1
        have hai : ix a i < 10 := da _ (ix_mem hlt)
        have hwi : IntKind.i64.wrap ((i : Int) + 1) = (i : Int) + 1 := wrap64 (by omega) (by omega)
        have next : S.drop (i + 1) = a.drop (i + 1) := by
          have := congrArg List.tail hd
          rwa [List.tail_drop, List.tail_drop] at this
        have hset : ∀ v : List AV, ((dl S).set i v)[i]? = some v := dl_setK S (by omega)
        have hb0 : ∀ d : Nat, d = c + (b.drop i).headD 0 → lessL (a.drop i) (b.drop i) c = if ix a i < d then (ix a i + 10 - d) :: lessL (a.drop (i + 1)) (b.drop (i + 1)) 1 else (ix a i - d) :: lessL (a.drop (i + 1)) (b.drop (i + 1)) 0 := by
          rintro d rfl
          rw [drop_ix hlt, lessL, List.tail_drop]
        simp
        refine br_cond rfl (fun h2 => ?_) (fun h2 => ?_)
        · have hltb : i < b.length := by have := ltI_t.1 h2; omega
          have hbi : ix b i < 10 := db _ (ix_mem hltb)
          obtain ⟨d, hdd⟩ : ∃ d, d = c + ix b i := ⟨_, rfl⟩
          have hwd : IntKind.u8.wrap ((c : Int) + (ix b i : Nat)) = (d : Int) := by rw [wrap8 (by omega) (by omega)]; omega
          have hd10 : d ≤ 10 := by omega
          have hdk : d = c + (b.drop i).headD 0 := by rw [drop_ix hltb]; exact hdd
          have hbd := dl_ix (l := b) (ltN (i := i) hltb)
          simp [hbd, hwd, h, hSd, hSa]
          refine br_cond rfl (fun h3 => ?_) (fun h3 => ?_)
          · have hlx : ix a i < d := by have := ltI_t.1 h3; omega
            have w1 : IntKind.u8.wrap (((ix a i : Nat) : Int) + 10) = ((ix a i : Nat) : Int) + 10 := wrap8 (by omega) (by omega)
            have w2 : IntKind.u8.wrap (((ix a i : Nat) : Int) + 10 - d) = ((ix a i + 10 - d : Nat) : Int) := by rw [wrap8 (by omega) (by omega)]; omega
            simp [h, hSd, hSa, w1, hset]
            rw [w2, dl_set]
            refine ⟨i + 1, S.set i (ix a i + 10 - d), 1, ⟨by omega, by rw [List.length_set]; exact hS, by rw [drop_set, next], ?_, by omega⟩, by omega, Sim.of_le (Env.le_of (by simp [hwi])) (Mem.le_of rfl (by simp))⟩
            rw [take_set (by omega), ← ht, hb0 d hdk, if_pos hlx]; simp
          · have hlx : ¬ ix a i < d := by have := ltI_f.1 h3; omega
            have w2 : IntKind.u8.wrap (((ix a i : Nat) : Int) - d) = ((ix a i - d : Nat) : Int) := by rw [wrap8 (by omega) (by omega)]; omega
            simp [h, hSd, hSa]
            rw [w2, dl_set]
            refine ⟨i + 1, S.set i (ix a i - d), 0, ⟨by omega, by rw [List.length_set]; exact hS, by rw [drop_set, next], ?_, by omega⟩, by omega, Sim.of_le (Env.le_of (by simp [hwi])) (Mem.le_of rfl (by simp))⟩
            rw [take_set (by omega), ← ht, hb0 d hdk, if_neg hlx]; simp
        · have hltb : b.length ≤ i := by have := ltI_f.1 h2; omega
          obtain ⟨d, rfl⟩ : ∃ d, d = c := ⟨_, rfl⟩
          have hd10 : d ≤ 10 := by omega
          have hdk : d = d + (b.drop i).headD 0 := by rw [List.drop_eq_nil_of_le hltb]; rfl
          simp [h, hSd, hSa]
          refine br_cond rfl (fun h3 => ?_) (fun h3 => ?_)
          · have hlx : ix a i < d := by have := ltI_t.1 h3; omega
            have w1 : IntKind.u8.wrap (((ix a i : Nat) : Int) + 10) = ((ix a i : Nat) : Int) + 10 := wrap8 (by omega) (by omega)
            have w2 : IntKind.u8.wrap (((ix a i : Nat) : Int) + 10 - d) = ((ix a i + 10 - d : Nat) : Int) := by rw [wrap8 (by omega) (by omega)]; omega
            simp [h, hSd, hSa, w1, hset]
            rw [w2, dl_set]
            refine ⟨i + 1, S.set i (ix a i + 10 - d), 1, ⟨by omega, by rw [List.length_set]; exact hS, by rw [drop_set, next], ?_, by omega⟩, by omega, Sim.of_le (Env.le_of (by simp [hwi])) (Mem.le_of rfl (by simp))⟩
            rw [take_set (by omega), ← ht, hb0 d hdk, if_pos hlx]; simp
          · have hlx : ¬ ix a i < d := by have := ltI_f.1 h3; omega
            have w2 : IntKind.u8.wrap (((ix a i : Nat) : Int) - d) = ((ix a i - d : Nat) : Int) := by rw [wrap8 (by omega) (by omega)]; omega
            simp [h, hSd, hSa]
            rw [w2, dl_set]
            refine ⟨i + 1, S.set i (ix a i - d), 0, ⟨by omega, by rw [List.length_set]; exact hS, by rw [drop_set, next], ?_, by omega⟩, by omega, Sim.of_le (Env.le_of (by simp [hwi])) (Mem.le_of rfl (by simp))⟩
            rw [take_set (by omega), ← ht, hb0 d hdk, if_neg hlx]; simp
      · have hi' : i = a.length := by have := ltI_f.1 h; omega
        have hSl : lessL a b 0 = S := by
          rw [← ht, hi', ← hS, List.take_length, hS, List.drop_length]
          simp [lessL]
        have hk := PCalls.keep (pos := 0) (g := 1) (e := 5) (n := a.length) (m := ⟨[(1, .row 5 1 (dl S))], 2⟩) (h := by rw [List.take_of_length_le (by simp [hS])]; exact call259 S (by omega)) (hp := rfl) (hn := by simp [hS]) (hr := by rw [List.take_of_length_le (by simp [hS])]; exact dl_noref S)
        simp
        refine xcall_r hk ?_ ?_
        · rintro v m' ⟨hv, rfl⟩
          cases hv
          simp [cr253, hSl]
        · rintro v m' ⟨hv, _⟩
          cases hv
  · rintro v m' (⟨rfl, hv, rfl⟩ | ⟨hv, rfl⟩) <;> cases hv
end Go.Pm

/- BkC2: contracts: products and powers of numbers by their digits. -/
namespace Go.Pm
open Go Go.Proofs
attribute [-simp] List.getElem?_map
theorem le_set {l : List Nat} {B B' k x : Nat} (h : ∀ s ∈ l, s ≤ B) (hk : k < l.length) (hx : B + x ≤ B') : ∀ s ∈ l.set k (ix l k + x), s ≤ B' := by
  intro s hs
  rcases List.mem_or_eq_of_mem_set hs with hs | rfl
  · have := h s hs; omega
  · have := h _ (ix_mem hk); omega
set_option maxHeartbeats 1000000 in
theorem call254 (a b : List Nat) (ha : a.length ≤ 1000) (hb : b.length ≤ 1000) (da : Dg a) (db : Dg b) : PCalls Bk.pg 254 [.list true 1 (dl a), .list true 1 (dl b)] fun out => out = .ret (.list true 1 (dl (digs (valD a * valD b)))) := by
  refine ok254.pcalls (by simp) ?_
  have w1 : IntKind.i64.wrap ((a.length : Int) + b.length) = (a.length : Int) + b.length := wrap64 (by omega) (by omega)
  have w2 : IntKind.i64.wrap ((a.length : Int) + b.length + 1) = ((a.length + b.length + 1 : Nat) : Int) := by rw [wrap64 (by omega) (by omega)]; omega
  obtain ⟨N, hN⟩ : ∃ N, N = a.length + b.length + 1 := ⟨_, rfl⟩
  have hN1 : N * 8 ≤ 140737488355328 := by omega
  have hN2 : (N : Int) ≤ 9223372036854775807 := by omega
  have hN3 : N ≤ 140737488355328 := by omega
  rw [← hN] at w2
  obtain ⟨M, hM⟩ : ∃ M, M = 81 * b.length := ⟨_, rfl⟩
  have hMb : M ≤ 81000 := by omega
  have z0 : List.replicate N [AV.int .i64 0] = iw (List.replicate N 0) := by simp [iw]
  have z1 : List.replicate N [AV.int .u8 0] = dl (List.replicate N 0) := by simp [dl]
  simp [c254, w1, w2, hN1, hN2]
  rw [z0]
  refine wpS_loopS (ι := Nat × List Nat) (fun s => [(0, .list true 1 (dl a)), (1, .list true 1 (dl b)), (5, .row 0 0 1 0 N), (21, .list true 1 (dl a)), (22, .int .i64 a.length), (23, .int .i64 (s.1 : Nat))]) (fun s => ⟨[(0, .row 3 1 (iw s.2))], 1⟩) (fun s => a.length - s.1)
    (fun s => s.1 ≤ a.length ∧ s.2.length = N ∧ valD s.2 = valD (a.take s.1) * valD b ∧ ∀ x ∈ s.2, x ≤ M * s.1) (0, List.replicate N 0) ⟨Nat.zero_le _, by simp, by rw [valD_zeros]; simp [valD], fun x hx => by rw [(List.mem_replicate.1 hx).2]; omega⟩ (Sim.of_le (Env.le_of (by simp)) (Mem.le_of rfl (by simp))) ?_
  rintro ⟨i, S⟩ ⟨hi, hS, hv, hm⟩
  simp only at hi hS hv hm
  simp
  refine br_cond rfl (fun h => ?_) (fun h => ?_)
  · have hlt : i < a.length := by have := ltI_t.1 h; omega
    have hai : ix a i < 10 := da _ (ix_mem hlt)
    have had := dl_ix (l := a) (ltN (i := i) hlt)
    have hwi : IntKind.i64.wrap ((i : Int) + 1) = (i : Int) + 1 := wrap64 (by omega) (by omega)
    have hMi : M * (i + 1) ≤ 81000 * 1000 := Nat.mul_le_mul hMb (by omega)
    have hMi' : M * (i + 1) = M * i + M := Nat.mul_succ M i
    simp [had]
    refine wpS_loopS (ι := Nat × List Nat) (fun s => [(0, .list true 1 (dl a)), (1, .list true 1 (dl b)), (5, .row 0 0 1 0 N), (6, .int .i64 (i : Nat)), (7, .int .u8 (ix a i : Nat)), (21, .list true 1 (dl a)), (22, .int .i64 a.length), (23, .int .i64 (i : Nat)), (28, .list true 1 (dl b)), (29, .int .i64 b.length), (30, .int .i64 (s.1 : Nat))]) (fun s => ⟨[(0, .row 3 1 (iw s.2))], 1⟩) (fun s => b.length - s.1)
      (fun s => s.1 ≤ b.length ∧ s.2.length = N ∧ valD s.2 = valD (a.take i) * valD b + ix a i * 10 ^ i * valD (b.take s.1) ∧ ∀ x ∈ s.2, x ≤ M * i + 81 * s.1) (0, S) ⟨Nat.zero_le _, hS, by rw [hv]; simp [valD], fun x hx => hm x hx⟩ (Sim.of_le (Env.le_of (by simp)) (Mem.le_of rfl (by simp))) ?_
    rintro ⟨k, T⟩ ⟨hk, hT, hvk, hmk⟩
    simp only at hk hT hvk hmk
    simp
    refine br_cond rfl (fun h2 => ?_) (fun h2 => ?_)
    · have hltk : k < b.length := by have := ltI_t.1 h2; omega
      have hbk : ix b k < 10 := db _ (ix_mem hltk)
      have hbd := dl_ix (l := b) (ltN (i := k) hltk)
      have hwik : IntKind.i64.wrap ((i : Int) + k) = ((i + k : Nat) : Int) := by rw [wrap64 (by omega) (by omega)]; omega
      have hwk : IntKind.i64.wrap ((k : Int) + 1) = (k : Int) + 1 := wrap64 (by omega) (by omega)
      have hikN : i + k < T.length := by omega
      have hT1 := iw_ix (l := T) (ltN (i := i + k) hikN)
      have hlN : ltI ((i + k : Nat) : Int) N = true := ltN (by omega)
      have wa : IntKind.i64.wrap ((ix a i : Nat) : Int) = (ix a i : Nat) := wrap64 (by omega) (by omega)
      have wb : IntKind.i64.wrap ((ix b k : Nat) : Int) = (ix b k : Nat) := wrap64 (by omega) (by omega)
      have hp81 : ix a i * ix b k ≤ 9 * 9 := Nat.mul_le_mul (by omega) (by omega)
      obtain ⟨p, hp⟩ : ∃ p, p = ix a i * ix b k := ⟨_, rfl⟩
      have wp : IntKind.i64.wrap (((ix a i : Nat) : Int) * (ix b k : Nat)) = (p : Int) := by
        rw [← Int.natCast_mul, ← hp]
        exact wrap64 (by omega) (by omega)
      have hTk := hmk _ (ix_mem hikN)
      have ws : IntKind.i64.wrap (((ix T (i + k) : Nat) : Int) + p) = ((ix T (i + k) + p : Nat) : Int) := by
        rw [wrap64 (by omega) (by omega)]; omega
      obtain ⟨q, hq⟩ : ∃ q, q = i + k := ⟨_, rfl⟩
      rw [← hq] at hwik hT1 hlN ws hTk
      simp [hbd, hwik, hlN, hT1, wa, wb, wp, hwk]
      rw [ws, iw_set]
      refine ⟨k + 1, T.set q (ix T q + p), ⟨by omega, by rw [List.length_set]; exact hT, ?_, le_set hmk (by omega) (by omega)⟩, by omega, Sim.of_le (Env.le_of (by simp)) (Mem.le_of rfl (by simp))⟩
      rw [valD_set p (by omega), hvk, valD_take hltk, hp, hq, Nat.mul_add, Nat.pow_add, Nat.add_assoc]
      congr 1
      rw [Nat.add_left_cancel_iff]
      simp only [Nat.mul_comm, Nat.mul_left_comm, Nat.mul_assoc]
    · have hk' : k = b.length := by have := ltI_f.1 h2; omega
      simp [hwi]
      refine ⟨i + 1, T, ⟨by omega, hT, ?_, fun x hx => ?_⟩, by omega, Sim.of_le (Env.le_of (by simp)) (Mem.le_of rfl (by simp))⟩
      · rw [hvk, hk', List.take_length, valD_take hlt, Nat.add_mul]
      · have := hmk x hx; omega
  · have hi' : i = a.length := by have := ltI_f.1 h; omega
    rw [hi', List.take_length] at hv
    have hMi : M * i ≤ 81000 * 1000 := Nat.mul_le_mul hMb (by omega)
    obtain ⟨B, hB⟩ : ∃ B, B = M * i := ⟨_, rfl⟩
    rw [← hB] at hm hMi
    simp [hN3, hN2]
    rw [z1]
    refine wpS_loopS (ι := Nat × List Nat × Nat) (fun s => [(5, .row 0 0 1 0 N), (10, .row 1 1 1 0 N), (11, .int .i64 (s.2.2 : Nat)), (53, .row 0 0 1 0 N), (54, .int .i64 N), (55, .int .i64 (s.1 : Nat))]) (fun s => ⟨[(0, .row 3 1 (iw S)), (1, .row 5 1 (dl s.2.1))], 2⟩) (fun s => N - s.1)
      (fun s => s.1 ≤ N ∧ s.2.1.length = N ∧ Dg s.2.1 ∧ s.2.1.drop s.1 = List.replicate (N - s.1) 0 ∧ valD s.2.1 + s.2.2 * 10 ^ s.1 = valD (S.take s.1) ∧ s.2.2 ≤ B) (0, List.replicate N 0, 0) ⟨Nat.zero_le _, by simp, zeros_dg N, rfl, by rw [valD_zeros]; simp [valD], Nat.zero_le _⟩ (Sim.of_le (Env.le_of (by simp)) (Mem.le_of rfl (by simp))) ?_
    rintro ⟨i, O, c⟩ ⟨hi, hO, hd, hz, hv2, hc⟩
    simp only at hi hO hd hz hv2 hc
    simp
    refine br_cond rfl (fun h2 => ?_) (fun h2 => ?_)
    · have hlt : i < N := by have := ltI_t.1 h2; omega
      have hS1 := iw_ix (l := S) (ltN (i := i) (by omega))
      have hSi := hm _ (ix_mem (l := S) (i := i) (by omega))
      obtain ⟨t, ht⟩ : ∃ t, t = c + ix S i := ⟨_, rfl⟩
      have wt : IntKind.i64.wrap ((c : Int) + (ix S i : Nat)) = (t : Int) := by rw [wrap64 (by omega) (by omega)]; omega
      have wr : IntKind.u8.wrap ((t : Int).tmod 10) = ((t % 10 : Nat) : Int) := by
        rw [Int.tmod_eq_emod_of_nonneg (by omega), wrap8 (by omega) (by omega)]; omega
      have wq : IntKind.i64.wrap ((t : Int) / 10) = (t : Int) / 10 := wrap64 (by omega) (by omega)
      have hwi : IntKind.i64.wrap ((i : Int) + 1) = (i : Int) + 1 := wrap64 (by omega) (by omega)
      have hlN : ltI (i : Int) N = true := ltN hlt
      have hOd := dl_ix (l := O) (ltN (i := i) (by omega))
      simp [hS1, wt, hlN, wq, hwi, hOd]
      rw [wr, dl_set]
      have hO0 : ix O i = 0 := by
        have := drop_ix (l := O) (i := i) (by omega)
        rw [hz, show N - i = (N - (i + 1)) + 1 by omega, List.replicate_succ] at this
        exact (List.cons.inj this).1.symm
      refine ⟨i + 1, O.set i (t % 10), t / 10, ⟨by omega, by rw [List.length_set]; exact hO, dg_set hd (by omega), ?_, ?_, by omega⟩, by omega, Sim.of_le (Env.le_of (by simp)) (Mem.le_of rfl (by simp))⟩
      · rw [drop_set]
        have := congrArg List.tail hz
        rw [List.tail_drop] at this
        rw [this, show N - i = (N - (i + 1)) + 1 by omega, List.replicate_succ]; rfl
      · have e := valD_set (l := O) (k := i) (t % 10) (by omega)
        rw [hO0, Nat.zero_add] at e
        have e2 : t * 10 ^ i = t % 10 * 10 ^ i + t / 10 * 10 ^ (i + 1) := by
          rw [Nat.pow_succ, Nat.mul_comm (10 ^ i) 10, ← Nat.mul_assoc, ← Nat.add_mul]
          congr 1
          omega
        rw [e, valD_take (by omega), ← hv2, Nat.add_assoc, ← e2, ht, Nat.add_mul, Nat.add_assoc]
    · have hi' : i = N := by have := ltI_f.1 h2; omega
      have hSt : S.take N = S := List.take_of_length_le (by omega)
      rw [hi', hSt, hv] at hv2
      have hlt : valD a * valD b < 10 ^ N := by
        have h1 := valD_lt da
        have h2 := valD_lt db
        have h3 : valD a * valD b ≤ 10 ^ a.length * 10 ^ b.length := Nat.mul_le_mul (by omega) (by omega)
        rw [← Nat.pow_add] at h3
        have h4 : 10 ^ (a.length + b.length) < 10 ^ N := Nat.pow_lt_pow_right (by decide) (by omega)
        omega
      have hc0 : c = 0 := by
        rcases Nat.eq_zero_or_pos c with h | h
        · exact h
        · have : 1 * 10 ^ N ≤ c * 10 ^ N := Nat.mul_le_mul_right _ h
          omega
      rw [hc0, Nat.zero_mul, Nat.add_zero] at hv2
      have hk := PCalls.keep (pos := 1) (g := 1) (e := 5) (n := N) (m := ⟨[(0, .row 3 1 (iw S)), (1, .row 5 1 (dl O))], 2⟩) (h := by rw [List.take_of_length_le (by simp [hO])]; exact call259 O (by omega)) (hp := rfl) (hn := by simp [hO]) (hr := by rw [List.take_of_length_le (by simp [hO])]; exact dl_noref O)
      simp
      refine xcall_r hk ?_ ?_
      · rintro v m' ⟨hv', rfl⟩
        cases hv'
        simp [cr254]
        rw [trim_digs hd, hv2]
      · rintro v m' ⟨hv', _⟩
        cases hv'
theorem digs_le {n k : Nat} (h : n ≤ 10 ^ k) : (digs n).length ≤ k + 1 := digs_len (k + 1) n (by
  have : 10 ^ k < 10 ^ (k + 1) := Nat.pow_lt_pow_right (by decide) (by omega)
  omega)
theorem times {x y : Nat} (hx : (digs x).length ≤ 1000) (hy : (digs y).length ≤ 1000) : PCalls Bk.pg 254 [.list true 1 (dl (digs x)), .list true 1 (dl (digs y))] fun out => out = .ret (.list true 1 (dl (digs (x * y)))) := by
  have := call254 (digs x) (digs y) hx hy (digs_dg x) (digs_dg y)
  rwa [valD_digs, valD_digs] at this
theorem call255 (b n : Nat) (hb : b ≤ 10) (hn : n ≤ 900) : PCalls Bk.pg 255 [.int .i64 b, .int .i64 n] fun out => out = .ret (.list true 1 (dl (digs (b ^ n)))) := by
  refine ok255.pcalls (by simp) ?_
  simp [c255]
  refine xcall_p (call52 1 (by omega)) (by simp) ?_
  simp
  refine wpS_loopS (ι := Nat) (fun i => [(0, .int .i64 b), (5, .list true 1 (dl (digs (b ^ i)))), (7, .int .i64 n), (8, .int .i64 (i : Nat))]) (fun _ => ⟨[], 0⟩) (fun i => n - i)
    (fun i => i ≤ n) 0 (Nat.zero_le _) (Sim.of_le (Env.le_of (by simp)) (Mem.le_of rfl (by simp))) ?_
  rintro i hi
  simp
  refine br_cond rfl (fun h => ?_) (fun h => ?_)
  · have hlt : i < n := by have := ltI_t.1 h; omega
    have hwi : IntKind.i64.wrap ((i : Int) + 1) = (i : Int) + 1 := wrap64 (by omega) (by omega)
    simp
    refine xcall_p (call52 b (by omega)) (by simp) ?_
    simp
    have l1 : (digs (b ^ i)).length ≤ 1000 := Nat.le_trans (digs_le (Nat.pow_le_pow_left hb i)) (by omega)
    have l2 : (digs b).length ≤ 1000 := Nat.le_trans (digs_le (k := 1) (by omega)) (by omega)
    refine xcall_p (times l1 l2) (by simp) ?_
    simp [hwi]
    exact ⟨i + 1, by omega, by omega, Sim.of_le (Env.le_of (by simp [Nat.pow_succ])) (Mem.le_of rfl (by simp))⟩
  · have hi' : i = n := by have := ltI_f.1 h; omega
    simp [cr255, hi']
end Go.Pm

/- BkC3: contracts: digits from the highest one on; numbers out of digits; which number is greater. -/
namespace Go.Pm
open Go Go.Proofs
attribute [-simp] List.getElem?_map
theorem digs_lt {x k : Nat} (h : (digs x).length ≤ k) : x < 10 ^ k := by
  have := valD_lt (digs_dg x)
  rw [valD_digs] at this
  exact Nat.lt_of_lt_of_le this (Nat.pow_le_pow_right (by decide) h)
theorem cmpAux_sign {a b : List Nat} (da : Dg a) (db : Dg b) : ∀ k, k ≤ a.length → k ≤ b.length → (0 ≤ cmpAux a b k ↔ valD (b.take k) ≤ valD (a.take k)) ∧ (cmpAux a b k = 0 ↔ valD (b.take k) = valD (a.take k))
  | 0, _, _ => by simp [cmpAux, valD]
  | k + 1, ha, hb => by
    obtain ⟨h1, h2⟩ := cmpAux_sign da db k (by omega) (by omega)
    have la : valD (a.take k) < 10 ^ k := by
      have := valD_lt (l := a.take k) fun d hd => da d (List.mem_of_mem_take hd)
      rwa [List.length_take, Nat.min_eq_left (by omega)] at this
    have lb : valD (b.take k) < 10 ^ k := by
      have := valD_lt (l := b.take k) fun d hd => db d (List.mem_of_mem_take hd)
      rwa [List.length_take, Nat.min_eq_left (by omega)] at this
    rw [valD_take (by omega), valD_take (by omega), cmpAux]
    by_cases he : ix a k = ix b k
    · rw [if_pos he, he]
      exact ⟨h1.trans (by omega), h2.trans (by omega)⟩
    · rw [if_neg he]
      rcases Nat.lt_or_ge (ix a k) (ix b k) with hlt | hge
      · have : (ix a k + 1) * 10 ^ k ≤ ix b k * 10 ^ k := Nat.mul_le_mul_right _ hlt
        rw [Nat.add_mul, Nat.one_mul] at this
        constructor <;> constructor <;> intro h <;> omega
      · have : (ix b k + 1) * 10 ^ k ≤ ix a k * 10 ^ k := Nat.mul_le_mul_right _ (by omega)
        rw [Nat.add_mul, Nat.one_mul] at this
        constructor <;> constructor <;> intro h <;> omega
theorem cmp_sign (x y : Nat) : (0 ≤ cmpD (digs x) (digs y) ↔ y ≤ x) ∧ (cmpD (digs x) (digs y) = 0 ↔ x = y) := by
  unfold cmpD
  split
  · rename_i h
    have := cmpAux_sign (digs_dg x) (digs_dg y) (digs x).length (Nat.le_refl _) (by omega)
    rw [List.take_length, h, List.take_length, valD_digs, valD_digs] at this
    rw [h]
    exact ⟨this.1, this.2.trans ⟨Eq.symm, Eq.symm⟩⟩
  · rename_i h
    rcases Nat.lt_or_ge (digs x).length (digs y).length with hlt | hge
    · have h1 : x < y := by
        have h2 := digs_lt (Nat.le_refl (digs x).length)
        rcases Nat.lt_or_ge y (10 ^ (digs x).length) with h3 | h3
        · have := digs_len _ _ h3; omega
        · omega
      constructor <;> constructor <;> intro h <;> omega
    · have h1 : y < x := by
        have h2 := digs_lt (Nat.le_refl (digs y).length)
        rcases Nat.lt_or_ge x (10 ^ (digs y).length) with h3 | h3
        · have := digs_len _ _ h3; omega
        · omega
      constructor <;> constructor <;> intro h <;> omega
theorem call321 {l : List Nat} {m : Mem} : ACalls Bk.pg 321 [.list true 1 (dl l)] m fun out m' => out = .ret (.fn 356 [.ptr m.store.length m.next 0]) ∧ m' = m.new (.cells [.list true 1 (dl l)]) := by
  refine ok321.acalls (by simp) ?_
  simp [c321, cr321, postA_ret, Mem.new]
theorem call356 {pos gen p g : Nat} {Inv : Nat → Mem → Prop} {l : List Nat} {m0 : Mem} (hl : l.length ≤ 140737488355327)
    (hY : ∀ k m, k < l.length → Inv (k + 1) m → YCalls Bk.pg pos gen [.int .u8 (ix l k : Nat)] m fun out m' => out = .ret (.bool true) ∧ Inv k m')
    (hc : ∀ k m, Inv k m → m.obj p g = some (.cells [.list true 1 (dl l)]))
    (h0 : Inv l.length m0) : ACalls Bk.pg 356 [.yield pos gen, .ptr p g 0] m0 fun out m' => out = .ret (.tuple []) ∧ Inv 0 m' := by
  refine ok356.acalls (by simp) ?_
  have ho := hc _ _ h0
  have hw0 : IntKind.i64.wrap ((l.length : Int) - 1) = (l.length : Int) - 1 := wrap64 (by omega) (by omega)
  simp only [Mem.obj] at ho
  simp [c356, ho, hw0]
  refine wpS_loop (ι := Nat × Mem) (fun s => [(0, .yield pos gen), (1, .ptr p g 0), (3, .int .i64 ((s.1 : Int) - 1))]) (fun s => s.2) (fun s => s.1) (fun s => s.1 ≤ l.length ∧ Inv s.1 s.2) (l.length, m0) ⟨Nat.le_refl _, h0⟩ (Env.le_of (by simp)) rfl ?_
  rintro ⟨k, m⟩ ⟨hk, hI⟩
  simp only at hk hI
  have hobj := hc k m hI
  simp only [Mem.obj] at hobj
  simp
  refine br_cond rfl (fun h1 => ?_) (fun h1 => ?_)
  · obtain ⟨j, rfl⟩ : ∃ j, k = j + 1 := ⟨k - 1, by have := leI_t.1 h1; omega⟩
    have e1 : (((j + 1 : Nat) : Int) - 1) = j := by omega
    have e2 := dl_ix (l := l) (ltN (i := j) (by omega))
    have hwj : IntKind.i64.wrap ((j : Int) - 1) = (j : Int) - 1 := wrap64 (by omega) (by omega)
    simp only [e1] at h1 ⊢
    simp [hobj, e2]
    refine ⟨pos, gen, _, ⟨⟨rfl, rfl⟩, rfl⟩, ycall_r (hY j m (by omega) hI) ?_ ?_⟩
    · rintro v m' ⟨hv, hI'⟩
      cases hv
      simp [hwj]
      exact ⟨j, m', ⟨by omega, hI'⟩, by omega, Env.le_of (by simp), Mem.le_refl _⟩
    · rintro v m' ⟨hv, _⟩
      cases hv
  · have hk0 : k = 0 := by have := leI_f.1 h1; omega
    subst hk0
    simp [cr356, postA_norm]
    exact hI
theorem valD_drop {l : List Nat} {k : Nat} (h : k < l.length) : valD (l.drop k) = ix l k + 10 * valD (l.drop (k + 1)) := by
  rw [drop_ix h, valD]
theorem valD_drop_le : ∀ (l : List Nat) (k : Nat), valD (l.drop k) ≤ valD l
  | [], k => by simp [valD]
  | d :: l, 0 => Nat.le_refl _
  | d :: l, k + 1 => by
    have := valD_drop_le l k
    rw [List.drop_succ_cons, valD]; omega
def a245 : SC := (.ops [⟨(some 4), .plain .mv, [.tmp 7], none⟩] [])
def b245 : SC := (.block 1
     (.ops [⟨(some 8), .plain (.load false 1), [.tmp 3], none⟩,
       ⟨(some 9), .plain (.bin .mul), [.tmp 8, .lit (.int .i64 10)], none⟩,
       ⟨(some 10), .plain .mv, [.tmp 4], none⟩,
       ⟨(some 11), .plain (.convInt .i64), [.tmp 10], none⟩,
       ⟨(some 12), .plain (.bin .add), [.tmp 9, .tmp 11], none⟩,
       ⟨none, .plain (.store 1), [.tmp 3, .tmp 12], none⟩] [8, 9, 10, 11, 12]))
def e245 : Env := [(3, .ptr 0 0 0), (6, .fn 356 [.ptr 1 1 0])]
def ok245r : Loop → Prop := loopOk Bk.pg.toProgram Bk.imp [7] a245 b245
def m245 (l : List Nat) (n : Nat) (lo : AObj) : Mem := ⟨[(0, .cells [.int .i64 n]), (1, .cells [.list true 1 (dl l)]), (2, lo)], 3⟩
theorem round245 {l : List Nat} {k n : Nat} (hk : k < l.length) (hd : Dg l) (hv : valD l ≤ 9223372036854775807) (hn : n = valD (l.drop (k + 1))) :
    YCalls Bk.pg 2 2 [.int .u8 (ix l k : Nat)] (m245 l n (.loop .ready e245 ok245r)) fun out m' => out = .ret (.bool true) ∧ m' = m245 l (valD (l.drop k)) (.loop .ready e245 ok245r) := by
  refine ycalls_S (ps := [7]) (a := a245) (b := b245) (e := e245) rfl rfl ?_
  rw [show loopOk Bk.pg.toProgram Bk.imp [7] a245 b245 = ok245r from rfl]
  have hix := hd _ (ix_mem hk)
  have h1 := valD_drop hk
  have h2 := valD_drop_le l k
  have w1 : IntKind.i64.wrap ((ix l k : Nat) : Int) = (ix l k : Nat) := wrap64 (by omega) (by omega)
  have w2 : IntKind.i64.wrap ((n : Int) * 10) = (n : Int) * 10 := wrap64 (by omega) (by omega)
  have w3 : IntKind.i64.wrap ((n : Int) * 10 + (ix l k : Nat)) = (valD (l.drop k) : Nat) := by rw [wrap64 (by omega) (by omega)]; omega
  simp [a245, b245, Env.sets, e245, m245, w1, w2, w3]
  exact ⟨rfl, _, Mem.le_refl _, rfl, rfl⟩
theorem call245 (l : List Nat) (hd : Dg l) (hv : valD l ≤ 9223372036854775807) (hl : l.length ≤ 140737488355327) : PCalls Bk.pg 245 [.list true 1 (dl l)] fun out => out = .ret (.int .i64 (valD l : Nat)) := by
  refine ok245.pcalls (by simp) ?_
  simp [c245]
  refine xcall_a call321 ?_
  simp
  refine wpS_rangeS e245 ⟨[(0, .cells [.int .i64 0]), (1, .cells [.list true 1 (dl l)])], 2⟩ (Sim.of_le (Env.le_of (by simp [e245])) (Mem.le_refl _)) rfl
    (call356 (pos := 2) (gen := 2) (p := 1) (g := 1) (l := l) (Inv := fun k m => k ≤ l.length ∧ m = m245 l (valD (l.drop k)) (.loop .ready e245 ok245r)) hl ?hY ?hc ?h0) ?hr ?hp
  case hY =>
    rintro k m hk ⟨_, rfl⟩
    exact (round245 hk hd hv rfl).mono fun out m' h => ⟨h.1, by omega, h.2⟩
  case hc =>
    rintro k m ⟨_, rfl⟩
    rfl
  case h0 => exact ⟨Nat.le_refl _, by rw [List.drop_length]; rfl⟩
  case hr =>
    rintro v m' ⟨hv, _, rfl⟩
    refine ⟨.ready, e245, ok245r, rfl, ?_⟩
    simp [e245, m245, cr245]
  case hp =>
    rintro v m' ⟨hv, _⟩
    cases hv
end Go.Pm

/- BkC4: contracts: a difference's value; a row turned round; quotients of numbers by their digits. -/
namespace Go.Pm
open Go Go.Proofs
attribute [-simp] List.getElem?_map
theorem lessL_val : ∀ (a b : List Nat) (c : Nat), Dg a → Dg b → c ≤ 1 → valD b + c ≤ valD a → valD (lessL a b c) + valD b + c = valD a ∧ Dg (lessL a b c)
  | [], b, c, _, _, _, h => by
    simp only [valD] at h
    refine ⟨by simp only [lessL, valD]; omega, fun d hd => by simp [lessL] at hd⟩
  | x :: a, b, c, da, db, hc, h => by
    have hx : x < 10 := da x (by simp)
    have da' : Dg a := fun d hd => da d (by simp [hd])
    have hb : ∃ y, y < 10 ∧ y = b.headD 0 ∧ valD b = y + 10 * valD b.tail ∧ Dg b.tail := by
      cases b with
      | nil => exact ⟨0, by omega, rfl, by simp [valD], fun d hd => by simp at hd⟩
      | cons y b => exact ⟨y, db y (by simp), rfl, rfl, fun d hd => db d (List.mem_cons_of_mem _ hd)⟩
    obtain ⟨y, hy, hy', hv, db'⟩ := hb
    rw [valD, hv] at h
    unfold lessL
    rw [← hy']
    split
    · rename_i hlt
      obtain ⟨h1, h2⟩ := lessL_val a b.tail 1 da' db' (by omega) (by omega)
      refine ⟨by rw [valD, valD, hv]; omega, fun d hd => ?_⟩
      rcases List.mem_cons.1 hd with rfl | hd
      · omega
      · exact h2 d hd
    · rename_i hlt
      obtain ⟨h1, h2⟩ := lessL_val a b.tail 0 da' db' (by omega) (by omega)
      refine ⟨by rw [valD, valD, hv]; omega, fun d hd => ?_⟩
      rcases List.mem_cons.1 hd with rfl | hd
      · omega
      · exact h2 d hd
theorem lessC {x y : Nat} (hxy : y ≤ x) (hx : (digs x).length ≤ 140737488355327) (hy : (digs y).length ≤ 140737488355327) : PCalls Bk.pg 253 [.list true 1 (dl (digs x)), .list true 1 (dl (digs y))] fun out => out = .ret (.list true 1 (dl (digs (x - y)))) := by
  have h := call253 (digs x) (digs y) hx hy (digs_dg x) (digs_dg y)
  obtain ⟨h1, h2⟩ := lessL_val (digs x) (digs y) 0 (digs_dg x) (digs_dg y) (by omega) (by rw [valD_digs, valD_digs]; omega)
  rw [valD_digs, valD_digs] at h1
  rw [trim_digs h2, show valD (lessL (digs x) (digs y) 0) = x - y by omega] at h
  exact h
def revAt (Q : List Nat) (i t : Nat) : Nat := if t < i ∨ Q.length - i ≤ t then ix Q (Q.length - 1 - t) else ix Q t
theorem call324 (Q : List Nat) {o0 o1 o2 o3 o5 : Nat × AObj} {g nx : Nat} (hl : Q.length ≤ 140737488355327) : ACalls Bk.pg 324 [.row 4 g 1 0 Q.length] ⟨[o0, o1, o2, o3, (g, .row 5 1 (dl Q)), o5], nx⟩ fun out m' => out = .ret (.tuple []) ∧ m' = ⟨[o0, o1, o2, o3, (g, .row 5 1 (dl Q.reverse)), o5], nx⟩ := by
  refine ok324.acalls (by simp) ?_
  have hw0 : IntKind.i64.wrap ((Q.length : Int) - 1) = (Q.length : Int) - 1 := wrap64 (by omega) (by omega)
  simp [c324, hw0]
  refine wpS_loop (ι := Nat × List Nat) (fun s => [(0, .row 4 g 1 0 Q.length), (2, .int .i64 (s.1 : Nat)), (3, .int .i64 ((Q.length : Int) - 1 - s.1))]) (fun s => ⟨[o0, o1, o2, o3, (g, .row 5 1 (dl s.2)), o5], nx⟩) (fun s => Q.length - s.1)
    (fun s => s.1 ≤ Q.length ∧ s.2.length = Q.length ∧ 2 * s.1 ≤ Q.length + 1 ∧ ∀ t, t < Q.length → ix s.2 t = revAt Q s.1 t) (0, Q) ⟨Nat.zero_le _, rfl, by simp, fun t ht => by rw [revAt, if_neg]; omega⟩ (Env.le_of (by simp)) rfl ?_
  rintro ⟨i, S⟩ ⟨hi, hS, hi2, hx⟩
  simp only at hi hS hi2 hx
  simp
  refine br_cond rfl (fun h1 => ?_) (fun h1 => ?_)
  · obtain ⟨j, hj⟩ : ∃ j, j = Q.length - 1 - i := ⟨_, rfl⟩
    have hij : i < j := by have := ltI_t.1 h1; omega
    have ej : (Q.length : Int) - 1 - i = (j : Nat) := by omega
    have li : ltI (i : Int) Q.length = true := ltN (by omega)
    have lj : ltI (j : Int) Q.length = true := ltN (by omega)
    have di := dl_ix (l := S) (ltN (i := i) (by omega))
    have dj := dl_ix (l := S) (ltN (i := j) (by omega))
    have hwi : IntKind.i64.wrap ((i : Int) + 1) = (i : Int) + 1 := wrap64 (by omega) (by omega)
    have hwj : IntKind.i64.wrap ((j : Int) - 1) = (Q.length : Int) - 1 - (i + 1 : Nat) := by rw [wrap64 (by omega) (by omega)]; omega
    rw [ej]
    simp [li, lj, di, dj]
    rw [dl_set]
    have dj2 := dl_ix (l := S.set i (ix S j)) (i := j) (ltN (by rw [List.length_set]; omega))
    simp [dj2]
    rw [dl_set]
    simp [hwi, hwj]
    refine ⟨i + 1, (S.set i (ix S j)).set j (ix S i), ⟨by omega, by simp [hS], by omega, fun t ht => ?_⟩, by omega, Env.le_of (by simp [hwj]), Mem.le_of rfl (by simp)⟩
    rw [ix_set (by rw [List.length_set]; omega), ix_set (by omega), hx i (by omega), hx j (by omega), hx t ht]
    simp only [revAt]
    by_cases h1 : j = t
    · subst h1
      rw [if_pos rfl, if_neg (by omega), if_pos (by omega)]
      congr 1; omega
    · rw [if_neg h1]
      by_cases h2 : i = t
      · subst h2
        rw [if_pos rfl, if_neg (by omega), if_pos (by omega)]
        congr 1
      · rw [if_neg h2]
        by_cases h3 : t < i ∨ Q.length - i ≤ t
        · rw [if_pos h3, if_pos (by omega)]
        · rw [if_neg h3, if_neg (by omega)]
  · have : S = Q.reverse := by
      refine ext_ix (by rw [hS, List.length_reverse]) fun t ht => ?_
      have h2 := ltI_f.1 h1
      rw [hx t (by omega), revAt]
      have hr : ix Q.reverse t = ix Q (Q.length - 1 - t) := by
        simp only [ix, List.getD]
        rw [List.getElem?_reverse (by omega)]
      rw [hr]
      split
      · rfl
      · congr 1; omega
    subst this
    simp [cr324, postA_norm]
end Go.Pm

/- BkC5: contracts: quotients of numbers by their digits; products of long numbers. -/
namespace Go.Pm
open Go Go.Proofs
attribute [-simp] List.getElem?_map
def a252 : SC := (.ops [⟨(some 7), .plain .mv, [.tmp 11], none⟩] [])
def b252 : SC := (.block 1
     (.seq (.ops [⟨(some 12), .plain .mv, [.tmp 7], none⟩,
       ⟨(some 13), .plain (.buildRow 5 1 1 [(.int .u8 0)] [0]), [.tmp 12], none⟩,
       ⟨(some 14), .plain (.load false 1), [.tmp 6], none⟩,
       ⟨(some 15), .plain (.append 5 1 1), [.tmp 13, .tmp 14], none⟩,
       ⟨(some 16), .call 259, [.tmp 15], none⟩,
       ⟨none, .plain (.store 1), [.tmp 6, .tmp 16], none⟩] [12, 13, 14, 15, 16])
     (.seq (.ops [⟨(some 8), .plain .mv, [.lit (.int .u8 0)], none⟩] [])
     (.seq (.block 2
      (.loop
       (.seq (.seq (.ops [⟨(some 17), .plain (.load false 1), [.tmp 6], none⟩,
         ⟨(some 18), .plain (.load false 1), [.tmp 3], none⟩,
         ⟨(some 19), .call 257, [.tmp 17, .tmp 18], none⟩,
         ⟨(some 20), .plain (.bin .geq), [.tmp 19, .lit (.int .i64 0)], none⟩] [17, 18, 19])
       (.cond (.tmp 20)
        .skip
        (.exit 2)))
       (.block 3
        (.seq (.ops [⟨(some 21), .plain (.load false 1), [.tmp 6], none⟩,
          ⟨(some 22), .plain (.load false 1), [.tmp 3], none⟩,
          ⟨(some 23), .call 253, [.tmp 21, .tmp 22], none⟩,
          ⟨none, .plain (.store 1), [.tmp 6, .tmp 23], none⟩] [21, 22, 23])
        (.ops [⟨(some 24), .plain .mv, [.tmp 8], none⟩,
          ⟨(some 25), .plain (.bin .add), [.tmp 24, .lit (.int .u8 1)], none⟩,
          ⟨(some 8), .plain .mv, [.tmp 25], none⟩] [24, 25]))))))
     (.ops [⟨(some 26), .plain (.load false 1), [.tmp 5], none⟩,
       ⟨(some 27), .plain .mv, [.tmp 8], none⟩,
       ⟨(some 28), .plain (.buildRow 5 1 1 [(.int .u8 0)] [0]), [.tmp 27], none⟩,
       ⟨(some 29), .plain (.append 5 1 1), [.tmp 26, .tmp 28], none⟩,
       ⟨none, .plain (.store 1), [.tmp 5, .tmp 29], none⟩] [26, 27, 28, 29])))))
def e252 : Env := [(3, .ptr 0 0 0), (5, .ptr 1 1 0), (6, .ptr 2 2 0), (10, .fn 356 [.ptr 3 3 0])]
def ok252r : Loop → Prop := loopOk Bk.pg.toProgram Bk.imp [11] a252 b252
def m252 (l : List Nat) (B r : Nat) (Q : List Nat) (gq nx : Nat) (lo : AObj) : Mem :=
  ⟨[(0, .cells [.list true 1 (dl (digs B))]), (1, .cells [.row 4 gq 1 0 Q.length]), (2, .cells [.list true 1 (dl (digs r))]), (3, .cells [.list true 1 (dl l)]), (gq, .row 5 1 (dl Q)), (5, lo)], nx⟩
set_option maxHeartbeats 1000000 in
theorem round252 {l : List Nat} {B r k gq nx : Nat} {Q : List Nat} (hk : k < l.length) (hd : Dg l) (hB : 0 < B) (hr : r < B) (hBl : (digs B).length ≤ 1000) (hQ : Q.length ≤ 1000) :
    YCalls Bk.pg 5 5 [.int .u8 (ix l k : Nat)] (m252 l B r Q gq nx (.loop .ready e252 ok252r)) fun out m' => out = .ret (.bool true) ∧ ∃ gq' nx', m' = m252 l B ((ix l k + 10 * r) % B) (Q ++ [(ix l k + 10 * r) / B]) gq' nx' (.loop .ready e252 ok252r) := by
  refine ycalls_S (ps := [11]) (a := a252) (b := b252) (e := e252) rfl rfl ?_
  rw [show loopOk Bk.pg.toProgram Bk.imp [11] a252 b252 = ok252r from rfl]
  have hix := hd _ (ix_mem hk)
  have hrl : (digs r).length ≤ 1000 := by
    have := digs_lt (Nat.le_refl (digs B).length)
    exact Nat.le_trans (digs_len _ _ (Nat.lt_trans hr this)) hBl
  have hap : ∀ (o0 o1 o2 o3 o4 o5 : Nat × AObj) (x : List AV), appendA 5 1 1 ⟨[o0, o1, o2, o3, o4, o5, (nx, .row 5 1 [x])], nx + 1⟩ (.row 6 nx 1 0 1) (.list true 1 (dl (digs r))) = some (.row 6 (nx + 1) 1 0 (1 + (digs r).length), ⟨[o0, o1, o2, o3, o4, o5, (nx + 1, .row 5 1 (x :: dl (digs r)))], nx + 2⟩) := by
    intros
    have h2 : 1 + (digs r).length ≤ 9223372036854775807 := by omega
    have h3 : 1 + (digs r).length ≤ 140737488355328 := by omega
    simp [appendA, appendN, elsOf, Mem.obj, Mem.turn, h3]
    omega
  simp [a252, b252, Env.sets, e252, m252]
  rw [hap]
  simp
  obtain ⟨d, hdd⟩ : ∃ d, d = ix l k := ⟨_, rfl⟩
  rw [← hdd] at hix ⊢
  obtain ⟨R, hR⟩ : ∃ R, R = d + 10 * r := ⟨_, rfl⟩
  have hdg : Dg (d :: digs r) := by
    intro x hx
    rcases List.mem_cons.1 hx with rfl | hx
    · exact hix
    · exact digs_dg r x hx
  have h259 := call259 (d :: digs r) (by simp; omega)
  rw [trim_digs hdg, valD, valD_digs, ← hR] at h259
  have htk : (dl (d :: digs r)).take (1 + (digs r).length) = dl (d :: digs r) := List.take_of_length_le (by simp; omega)
  rw [← htk] at h259
  refine xcall_r (PCalls.keep (pos := 6) (g := nx + 1) (e := 5) (els := dl (d :: digs r)) (h := h259) (hp := rfl) (hn := by simp; omega) (hr := by rw [htk]; exact dl_noref _)) ?_ ?_
  rotate_left
  · rintro v m' ⟨hv, _⟩
    cases hv
  rintro v m' ⟨hv, rfl⟩
  cases hv
  simp [Mem.turn]
  have hR10 : R < 10 * B := by omega
  refine wpS_loopS (ι := Nat × Nat × Nat) (fun s => [(3, .ptr 0 0 0), (5, .ptr 1 1 0), (6, .ptr 2 2 0), (8, .int .u8 (s.2.1 : Nat)), (10, .fn 356 [.ptr 3 3 0])]) (fun s => m252 l B s.1 Q gq s.2.2 (.loop .busy e252 ok252r)) (fun s => s.1)
    (fun s => s.1 + s.2.1 * B = R) (R, 0, nx + 3) (by simp) (Sim.of_le (Env.le_of (by simp)) (Mem.le_of rfl (by simp [m252, e252]))) ?_
  rintro ⟨r', n, nx'⟩ hs
  simp only at hs
  have hr'l : (digs r').length ≤ 1001 := by
    have h1 := digs_lt (Nat.le_refl (digs B).length)
    have h2 : 10 ^ ((digs B).length + 1) = 10 ^ (digs B).length * 10 := Nat.pow_succ _ _
    have := digs_len ((digs B).length + 1) r' (by omega)
    omega
  simp [m252]
  refine xcall_p (call257 (digs r') (digs B) (by omega) (by omega) (digs_dg _) (digs_dg _)) (by simp) ?_
  simp
  refine br_cond rfl (fun h1 => ?_) (fun h1 => ?_)
  · have hge : B ≤ r' := (cmp_sign r' B).1.1 (leI_t.1 h1)
    have hn9 : n + 1 < 11 := by
      rcases Nat.lt_or_ge n 10 with h | h
      · omega
      · have : 10 * B ≤ n * B := Nat.mul_le_mul_right _ h
        omega
    simp
    refine xcall_p (lessC hge (by omega) (by omega)) (by simp) ?_
    have hwn : IntKind.u8.wrap ((n : Int) + 1) = (n : Int) + 1 := wrap8 (by omega) (by omega)
    simp [hwn]
    refine ⟨r' - B, n + 1, by rw [Nat.add_mul]; omega, by omega, nx', Sim.of_le (Env.le_of (by simp)) (Mem.le_of rfl (by simp))⟩
  · have hlt : r' < B := by
      rcases Nat.lt_or_ge r' B with h | h
      · exact h
      · have := (cmp_sign r' B).1.2 h
        have := leI_f.1 h1
        omega
    have e1 : R / B = n := by
      rw [← hs, Nat.add_mul_div_right _ _ hB, Nat.div_eq_of_lt hlt, Nat.zero_add]
    have e2 : R % B = r' := by
      rw [← hs, Nat.add_mul_mod_self_right, Nat.mod_eq_of_lt hlt]
    have hap2 : appendA 5 1 1 ⟨[(0, .cells [.list true 1 (dl (digs B))]), (1, .cells [.row 4 gq 1 0 Q.length]), (2, .cells [.list true 1 (dl (digs r'))]), (3, .cells [.list true 1 (dl l)]), (gq, .row 5 1 (dl Q)), (5, .loop .busy e252 ok252r), (nx', .row 5 1 [[.int .u8 (n : Nat)]])], nx' + 1⟩ (.row 4 gq 1 0 Q.length) (.row 6 nx' 1 0 1) = some (.row 4 (nx' + 1) 1 0 (Q.length + 1), ⟨[(0, .cells [.list true 1 (dl (digs B))]), (1, .cells [.row 4 gq 1 0 Q.length]), (2, .cells [.list true 1 (dl (digs r'))]), (3, .cells [.list true 1 (dl l)]), (nx' + 1, .row 5 1 (dl (Q ++ [n]))), (5, .loop .busy e252 ok252r), (nx', .row 5 1 [[.int .u8 (n : Nat)]])], nx' + 2⟩) := by
      have h3 : Q.length + 1 ≤ 140737488355328 := by omega
      have h2 : Q.length + 1 ≤ 9223372036854775807 := by omega
      simp [appendA, appendN, elsOf, Mem.obj, Mem.turn, h3, dl]
      omega
    simp
    rw [hap2]
    simp
    rw [← hR, e1, e2]
    exact ⟨rfl, m252 l B r' (Q ++ [n]) (nx' + 1) (nx' + 2) (.loop .ready e252 ok252r), Mem.le_of rfl (by simp [m252, Mem.put, e252]), rfl, nx' + 1, nx' + 2, by simp [m252, e252]⟩
theorem revD (Q : List Nat) (q : Nat) : valD (Q ++ [q]).reverse = q + 10 * valD Q.reverse := by
  rw [List.reverse_append]; rfl
set_option maxHeartbeats 1000000 in
theorem call252 {A B : Nat} (hB : 0 < B) (hAl : (digs A).length ≤ 1000) (hBl : (digs B).length ≤ 1000) : PCalls Bk.pg 252 [.list true 1 (dl (digs A)), .list true 1 (dl (digs B))] fun out => out = .ret (.list true 1 (dl (digs (A / B)))) := by
  refine ok252.pcalls (by simp) ?_
  obtain ⟨l, hl⟩ : ∃ l, l = digs A := ⟨_, rfl⟩
  have hd : Dg l := by rw [hl]; exact digs_dg A
  have hv : valD l = A := by rw [hl, valD_digs]
  rw [← hl] at hAl ⊢
  simp [c252]
  refine xcall_a call321 ?_
  simp
  have d0 : digs 0 = [] := digs_zero
  have sim1 : Sim e252 ⟨[(0, .cells [.list true 1 (dl (digs B))]), (1, .cells [.row 4 4 1 0 0]), (2, .cells [.list true 1 (dl (digs 0))]), (3, .cells [.list true 1 (dl l)]), (4, .row 5 1 [])], 5⟩ e252 ⟨[(0, .cells [.list true 1 (dl (digs B))]), (1, .cells [.nilS]), (2, .cells [.nilS]), (3, .cells [.list true 1 (dl l)])], 4⟩ := by
    refine Sim.trans ?_ (Sim.weak_cell (pos := 2) (g := 2) (vs := [.nilS]) 0 (y := .list true 1 []) rfl rfl Wk.nil)
    refine Sim.trans ?_ (Sim.nil_cell (pos := 1) (g := 1) (vs := [.nilS]) 0 5 (sz := 1) (by decide) rfl rfl)
    refine Sim.of_le (Env.le_refl _) (Mem.le_of rfl ?_)
    rw [d0]; rfl
  refine wpS_rangeS e252 ⟨[(0, .cells [.list true 1 (dl (digs B))]), (1, .cells [.row 4 4 1 0 0]), (2, .cells [.list true 1 (dl (digs 0))]), (3, .cells [.list true 1 (dl l)]), (4, .row 5 1 [])], 5⟩ (Sim.trans sim1 (Sim.of_le (Env.le_of (by simp [e252])) (Mem.le_refl _))) rfl
    (call356 (pos := 5) (gen := 5) (p := 3) (g := 3) (l := l) (Inv := fun k m => k ≤ l.length ∧ ∃ Q gq nx, m = m252 l B (valD (l.drop k) % B) Q gq nx (.loop .ready e252 ok252r) ∧ Dg Q ∧ valD Q.reverse = valD (l.drop k) / B ∧ Q.length = l.length - k) (by omega) ?hY ?hc ?h0) ?hr ?hp
  case hY =>
    rintro k m hk ⟨_, Q, gq, nx, rfl, hQd, hQv, hQl⟩
    have hr := Nat.mod_lt (valD (l.drop (k + 1))) hB
    refine (round252 hk hd hB hr hBl (by omega)).mono ?_
    rintro out m' ⟨ho, gq', nx', hm⟩
    have h1 := valD_drop hk
    obtain ⟨H, hH⟩ : ∃ H, H = valD (l.drop (k + 1)) := ⟨_, rfl⟩
    rw [← hH] at h1 hQv hr hm
    have hix := hd _ (ix_mem hk)
    have e0 : H = B * (H / B) + H % B := (Nat.div_add_mod H B).symm
    have e1 : valD (l.drop k) = (ix l k + 10 * (H % B)) + 10 * (H / B) * B := by
      rw [h1, Nat.mul_assoc, Nat.mul_comm (H / B) B]
      omega
    have e2 : valD (l.drop k) % B = (ix l k + 10 * (H % B)) % B := by rw [e1, Nat.add_mul_mod_self_right]
    have e3 : valD (l.drop k) / B = (ix l k + 10 * (H % B)) / B + 10 * (H / B) := by rw [e1, Nat.add_mul_div_right _ _ hB]
    refine ⟨ho, by omega, Q ++ [(ix l k + 10 * (H % B)) / B], gq', nx', by rw [hm, e2], ?_, by rw [revD, hQv, e3], by simp; omega⟩
    intro x hx
    rcases List.mem_append.1 hx with hx | hx
    · exact hQd x hx
    · rw [List.mem_singleton.1 hx]
      exact Nat.div_lt_of_lt_mul (by omega)
  case hc =>
    rintro k m ⟨_, Q, gq, nx, rfl, _⟩
    rfl
  case h0 => exact ⟨Nat.le_refl _, [], 4, 6, by rw [List.drop_length]; simp [valD, m252, Mem.new, dl, ok252r, a252, b252], fun x hx => by simp at hx, by rw [List.drop_length]; simp [valD], by simp⟩
  case hr =>
    rintro v m' ⟨hv', _, Q, gq, nx, rfl, hQd, hQv, hQl⟩
    refine ⟨.ready, e252, ok252r, rfl, ?_⟩
    rw [List.drop_zero, hv] at hQv
    simp [e252, m252]
    refine xcall_a (call324 Q (by omega)) ?_
    simp
    have hdr : Dg Q.reverse := fun x hx => hQd x (by simpa using hx)
    have h259 := call259 Q.reverse (by simp; omega)
    rw [trim_digs hdr, hQv] at h259
    have htk : (dl Q.reverse).take Q.length = dl Q.reverse := List.take_of_length_le (by simp)
    rw [← htk] at h259
    refine xcall_r (PCalls.keep (pos := 4) (g := gq) (e := 5) (els := dl Q.reverse) (h := h259) (hp := rfl) (hn := by simp) (hr := by rw [htk]; exact dl_noref _)) ?_ ?_
    · rintro v m' ⟨hv', rfl⟩
      cases hv'
      simp [cr252]
    · rintro v m' ⟨hv', _⟩
      cases hv'
  case hp =>
    rintro v m' ⟨hv', _⟩
    cases hv'
end Go.Pm

/- BkC6: contracts: long numbers: products, values as long numbers, two on one level. -/
namespace Go.Pm
open Go Go.Proofs
attribute [-simp] List.getElem?_map
def lg (n : Nat) (neg : Bool) (e : Int) : List AV := [.list true 1 (dl (digs n)), .bool neg, .int .i64 e]
def vl (k n q : Int) (s : ByteArray) : List AV := [.int .i64 k, .int .i64 n, .int .i64 q, .str s]
def ty (k p q n : Int) (vary : Bool) (pic : ByteArray) : List AV := [.int .i64 k, .int .i64 p, .int .i64 q, .int .i64 n, .bool vary, .str pic]
theorem call169 {a b : Nat} {na nb : Bool} {ea eb : Int} (ha : (digs a).length ≤ 1000) (hb : (digs b).length ≤ 1000) (he : -1000000 ≤ ea ∧ ea ≤ 1000000) (hf : -1000000 ≤ eb ∧ eb ≤ 1000000) :
    PCalls Bk.pg 169 [.agg (lg a na ea), .agg (lg b nb eb)] fun out => out = .ret (.agg (lg (a * b) (na != nb) (ea + eb))) := by
  refine ok169.pcalls (by simp [lg]) ?_
  have w1 : IntKind.i64.wrap (ea + eb) = ea + eb := wrap64 (by omega) (by omega)
  simp [c169, lg]
  refine xdcall_p rfl (times ha hb) (by simp) ?_
  simp [w1, cr169]
  cases na <;> cases nb <;> rfl
theorem call165 {k n q : Int} {s : ByteArray} (hn : -9223372036854775807 ≤ n ∧ n ≤ 9223372036854775807) (hq : -1000 ≤ q ∧ q ≤ 1000) (hk : k = 1 → 0 ≤ q ∧ q ≤ 100) :
    PCalls Bk.pg 165 [.agg (vl k n q s)] fun out => out = .ret (.agg (lg (if k = 1 then n.natAbs * 5 ^ q.toNat else n.natAbs) (decide (n < 0)) (if k = 1 ∨ k = 2 then -q else q))) := by
  refine ok165.pcalls (by simp [vl]) ?_
  have w1 : IntKind.i64.wrap (-n) = -n := wrap64 (by omega) (by omega)
  have w2 : IntKind.i64.wrap (-q) = -q := wrap64 (by omega) (by omega)
  have hmax : (if n < -n then -n else n) = (n.natAbs : Int) := by split <;> omega
  have hN : n.natAbs ≤ 9223372036854775807 := by omega
  have l1 : (digs n.natAbs).length ≤ 1000 := Nat.le_trans (digs_len 19 _ (by omega)) (by omega)
  have hneg : ltI n 0 = decide (n < 0) := rfl
  simp [c165, vl, w1]
  rw [hmax]
  refine xdcall_p rfl (call52 n.natAbs hN) (by simp) ?_
  simp
  refine br_cond rfl (fun h => ?_) (fun h => ?_)
  · have hk1 : k = 1 := eqI_t.1 h
    obtain ⟨hq0, hq1⟩ := hk hk1
    obtain ⟨u, hu⟩ : ∃ u : Nat, u = q.toNat := ⟨_, rfl⟩
    have eq : q = (u : Int) := by omega
    subst eq
    simp [hk1]
    refine xdcall_p rfl (call255 5 u (by omega) (by omega)) (by simp) ?_
    simp
    have l2 : (digs (5 ^ u)).length ≤ 1000 := Nat.le_trans (digs_le (Nat.pow_le_pow_left (by omega) u)) (by omega)
    refine xdcall_p rfl (times l1 l2) (by simp) ?_
    simp [w2, cr165, lg, hneg]
  · have hk1 : k ≠ 1 := fun h1 => by subst h1; cases h
    simp
    refine br_cond rfl (fun h2 => ?_) (fun h2 => ?_)
    · have hk2 : k = 2 := eqI_t.1 h2
      simp [w2, cr165, lg, hneg, hk2]
    · have hk2 : k ≠ 2 := fun h1 => by subst h1; cases h2
      simp [w2, cr165, lg, hneg, hk1, hk2]
def Bk.impT : List Go.FuncId := [2000000]
def c251T : SC :=
  (.seq (.ops [⟨(some 2), .plain (.box 3), [.tmp 0], none⟩,
    ⟨(some 3), .plain (.box 3), [.tmp 1], none⟩,
    ⟨(some 4), .plain (.alloc [.nilS, (.bool false), (.int .i64 0)]), [], none⟩,
    ⟨(some 5), .plain (.alloc [.nilS, (.bool false), (.int .i64 0)]), [], none⟩] [])
  (.seq (.ops [⟨(some 8), .plain (.fieldAddr 2), [.tmp 2], none⟩,
    ⟨(some 9), .plain (.load false 1), [.tmp 8], none⟩,
    ⟨(some 10), .plain (.fieldAddr 2), [.tmp 3], none⟩,
    ⟨(some 11), .plain (.load false 1), [.tmp 10], none⟩,
    ⟨(some 12), .plain .min2, [.tmp 9, .tmp 11], none⟩,
    ⟨(some 6), .plain (.alloc [(.int .i64 0)]), [], none⟩,
    ⟨none, .plain (.store 1), [.tmp 6, .tmp 12], none⟩] [8, 9, 10, 11, 12])
  (.seq (.ops [⟨(some 13), .plain (.mkFn 323), [.tmp 6], none⟩,
    ⟨(some 7), .plain .mv, [.tmp 13], none⟩] [13])
  (.seq (.draw (.step ⟨(some 14), .plain .mv, [.tmp 7], none⟩
    (.step ⟨(some 15), .plain (.load true 3), [.tmp 2], none⟩
    (.step ⟨(some 17), .plain .mv, [.tmp 7], none⟩
    (.or (.step ⟨(some 16), .callv, [.tmp 14, .tmp 15], none⟩
    (.step ⟨(some 18), .plain (.load true 3), [.tmp 3], none⟩
    (.step ⟨(some 19), .callv, [.tmp 17, .tmp 18], none⟩
    (.step ⟨none, .plain (.store 3), [.tmp 4, .tmp 16], none⟩
    (.step ⟨none, .plain (.store 3), [.tmp 5, .tmp 19], none⟩
    .done)))))
    (.step ⟨(some 18), .plain (.load true 3), [.tmp 3], none⟩
    (.step ⟨(some 16), .callv, [.tmp 14, .tmp 15], none⟩
    (.step ⟨(some 19), .callv, [.tmp 17, .tmp 18], none⟩
    (.step ⟨none, .plain (.store 3), [.tmp 4, .tmp 16], none⟩
    (.step ⟨none, .plain (.store 3), [.tmp 5, .tmp 19], none⟩
    .done))))))))) [14, 15, 17, 16, 18, 19])
  .ret))))
theorem ok251T : FOk Bk.pg.toProgram Bk.impT 251 c251T cr251 Tryz.f251.ntmps := ⟨Tryz.f251, _, Tryz.func251, rfl, by kernel_rfl, by kernel_rfl, by kernel_rfl, rfl⟩
theorem up_digs (a n : Nat) : (if digs a = [] then [] else List.replicate n 0 ++ digs a) = digs (a * 10 ^ n) := by
  split
  · rename_i h
    have : a = 0 := by rw [← valD_digs a, h]; rfl
    subst this
    rw [Nat.zero_mul, digs_zero]
  · rename_i h
    have h0 : 0 < a := by
      rcases Nat.eq_zero_or_pos a with rfl | h0
      · exact absurd digs_zero h
      · exact h0
    induction n with
    | zero => simp
    | succ n ih =>
      have e1 : a * 10 ^ (n + 1) % 10 = 0 := by rw [Nat.pow_succ, ← Nat.mul_assoc]; omega
      have e2 : a * 10 ^ (n + 1) / 10 = a * 10 ^ n := by rw [Nat.pow_succ, ← Nat.mul_assoc]; omega
      rw [digs_pos (Nat.mul_pos h0 (Nat.pow_pos (by decide))), e1, e2, ← ih, List.replicate_succ]; rfl
theorem upC {a n : Nat} (h : n + (digs a).length ≤ 140737488355327) : PCalls Bk.pg 243 [.list true 1 (dl (digs a)), .int .i64 n] fun out => out = .ret (.list true 1 (dl (digs (a * 10 ^ n)))) := by
  have := call243 (digs a) n h
  rwa [up_digs] at this
theorem cut_digs : ∀ (n a : Nat), (digs a).drop n = digs (a / 10 ^ n)
  | 0, a => by simp
  | n + 1, a => by
    rcases Nat.eq_zero_or_pos a with rfl | h
    · simp [digs_zero]
    · rw [digs_pos h, List.drop_succ_cons, cut_digs n, Nat.div_div_eq_div_mul, Nat.pow_succ, Nat.mul_comm]
theorem cutC {a n : Nat} (h : (digs a).length ≤ 140737488355327) (hn : n ≤ 140737488355327) : PCalls Bk.pg 244 [.list true 1 (dl (digs a)), .int .i64 n] fun out => out = .ret (.list true 1 (dl (digs (a / 10 ^ n)))) := by
  have := call244 (digs a) n h hn
  rwa [cut_digs] at this
theorem ACalls.forget {P : Prg} {f : FuncId} {xs : List AV} {m : Mem} {R : AOut → Mem → Prop} (h : ACalls P f xs m fun out m' => ∃ m'', Mem.le m'' m' ∧ R out m'') : ACalls P f xs m R :=
  h.sim fun out m' ⟨m'', h1, h2⟩ => ⟨out, m'', h2, SimO.forget h1⟩
theorem call323 {a : Nat} {na : Bool} {ea e : Int} {o0 o1 o2 o3 : Nat × AObj} {nx : Nat} (ha : (digs a).length ≤ 1000) (he : e ≤ ea ∧ ea - e ≤ 1000000) (h1 : -1000000 ≤ e) (h2 : ea ≤ 1000000) :
    ACalls Bk.pg 323 [.agg (lg a na ea), .ptr 4 4 0] ⟨[o0, o1, o2, o3, (4, .cells [.int .i64 e])], nx⟩ fun out m' => out = .ret (.agg (lg (a * 10 ^ (ea - e).toNat) na e)) ∧ m' = ⟨[o0, o1, o2, o3, (4, .cells [.int .i64 e])], nx + 2⟩ := by
  refine ACalls.forget (ok323.acalls (by simp [lg]) ?_)
  obtain ⟨k, hk⟩ : ∃ k : Nat, k = (ea - e).toNat := ⟨_, rfl⟩
  have w1 : IntKind.i64.wrap (ea - e) = (k : Int) := by rw [wrap64 (by omega) (by omega)]; omega
  rw [← hk]
  simp [c323, lg, w1]
  refine xcall_p (upC (a := a) (n := k) (by omega)) (by simp) ?_
  simp [cr323]
  exact Mem.le_of rfl (by simp)
theorem call251 {a b : Nat} {na nb : Bool} {ea eb : Int} (ha : (digs a).length ≤ 1000) (hb : (digs b).length ≤ 1000) (h1 : -10000 ≤ ea ∧ ea ≤ 10000) (h2 : -10000 ≤ eb ∧ eb ≤ 10000) :
    PCalls Bk.pg 251 [.agg (lg a na ea), .agg (lg b nb eb)] fun out => out = .ret (.tuple [.agg (lg (a * 10 ^ (ea - min ea eb).toNat) na (min ea eb)), .agg (lg (b * 10 ^ (eb - min ea eb).toNat) nb (min ea eb))]) := by
  refine ok251T.pcalls (by simp [lg]) ?_
  obtain ⟨e, he⟩ : ∃ e, e = min ea eb := ⟨_, rfl⟩
  have hm : (if eb < ea then eb else ea) = e := by rw [he]; split <;> omega
  rw [← he]
  simp [c251T, lg, hm]
  have ca := fun (o0 o1 o2 o3 : Nat × AObj) (nx : Nat) => call323 (a := a) (na := na) (ea := ea) (e := e) (o0 := o0) (o1 := o1) (o2 := o2) (o3 := o3) (nx := nx) ha ⟨by omega, by omega⟩ (by omega) (by omega)
  have cb := fun (o0 o1 o2 o3 : Nat × AObj) (nx : Nat) => call323 (a := b) (na := nb) (ea := eb) (e := e) (o0 := o0) (o1 := o1) (o2 := o2) (o3 := o3) (nx := nx) hb ⟨by omega, by omega⟩ (by omega) (by omega)
  refine ⟨?_, ?_⟩
  · refine xdops_callw rfl rfl (ca _ _ _ _ _) ?_
    simp
    refine xdops_callw rfl rfl (cb _ _ _ _ _) ?_
    simp [lg, cr251]
  · refine xdops_callw rfl rfl (ca _ _ _ _ _) ?_
    simp
    refine xdops_callw rfl rfl (cb _ _ _ _ _) ?_
    simp [lg, cr251]
end Go.Pm

/- BkC7: contracts: long numbers as fixed ones. -/
namespace Go.Pm
open Go Go.Proofs
attribute [-simp] List.getElem?_map
theorem lt_pow_mul {a b m n k : Nat} (h1 : a < 10 ^ m) (h2 : b < 10 ^ n) (hk : k = m + n) : a * b < 10 ^ k := by
  subst hk
  rw [Nat.pow_add]
  exact Nat.mul_lt_mul'' h1 h2
theorem and_mask (x p : Nat) (hx : x < 9223372036854775808) (hp : p ≤ 62) : binA .and (.int .i64 (x : Int)) (.int .i64 ((2 ^ p - 1 : Nat) : Int)) = some (.int .i64 ((x % 2 ^ p : Nat) : Int)) := by
  have h1 : BitVec.ofInt 64 (x : Int) = BitVec.ofNat 64 x := BitVec.ofInt_natCast 64 x
  have h2 : BitVec.ofInt 64 ((2 ^ p - 1 : Nat) : Int) = BitVec.ofNat 64 (2 ^ p - 1) := BitVec.ofInt_natCast 64 _
  have h3 : 2 ^ p ≤ 2 ^ 62 := Nat.pow_le_pow_right (by decide) hp
  have h4 : x % 2 ^ p < 2 ^ p := Nat.mod_lt _ (Nat.pow_pos (by decide))
  have h5 : (BitVec.ofInt 64 (x : Int) &&& BitVec.ofInt 64 ((2 ^ p - 1 : Nat) : Int)).toNat = x % 2 ^ p := by
    rw [h1, h2, BitVec.toNat_and, BitVec.toNat_ofNat, BitVec.toNat_ofNat, Nat.mod_eq_of_lt (a := x) (by omega), Nat.mod_eq_of_lt (a := 2 ^ p - 1) (by omega)]
    exact Nat.and_two_pow_sub_one_eq_mod x p
  show some (AV.int .i64 (IntKind.i64.wrap ((BitVec.ofInt 64 (x : Int) &&& BitVec.ofInt 64 ((2 ^ p - 1 : Nat) : Int)).toNat : Int))) = _
  rw [h5, wrap64 (by omega) (by omega)]
def a318 : SC := (.ops [⟨(some 8), .plain .mv, [.tmp 61], none⟩] [])
def b318 : SC := (.block 1
      (.draw (.step ⟨(some 62), .plain (.load false 1), [.tmp 4], none⟩
        (.step ⟨(some 63), .plain (.bin .mul), [.tmp 62, .lit (.int .i64 10)], none⟩
        (.step ⟨(some 64), .plain .mv, [.tmp 8], none⟩
        (.step ⟨(some 65), .plain (.convInt .i64), [.tmp 64], none⟩
        (.step ⟨(some 66), .plain (.bin .add), [.tmp 63, .tmp 65], none⟩
        (.step ⟨(some 67), .plain (.fieldAddr 1), [.tmp 3], none⟩
        (.step ⟨(some 68), .plain (.load false 1), [.tmp 67], none⟩
        (.step ⟨(some 69), .plain (.bin .shl), [.lit (.int .i64 1), .tmp 68], none⟩
        (.step ⟨(some 70), .plain (.bin .sub), [.tmp 69, .lit (.int .i64 1)], none⟩
        (.step ⟨(some 71), .plain (.bin .and), [.tmp 66, .tmp 70], none⟩
        (.step ⟨none, .plain (.store 1), [.tmp 4, .tmp 71], none⟩
        .done))))))))))) [62, 63, 64, 65, 66, 67, 68, 69, 70, 71]))
def e318 (b : Bool) : Env := [(2, .ptr 0 0 0), (3, .ptr 1 1 0), (4, .ptr 2 2 0), (5, .bool b), (60, .fn 356 [.ptr 3 3 0])]
def ok318r : Loop → Prop := loopOk Bk.pg.toProgram Bk.imp [61] a318 b318
theorem round318 {l : List Nat} {k n p : Nat} {o0 : Nat × AObj} {K q tn : Int} {vary : Bool} {pic : ByteArray} {b : Bool} (hk : k < l.length) (hd : Dg l) (hp : 1 ≤ p ∧ p ≤ 31) (hn : n < 2 ^ 31) :
    YCalls Bk.pg 4 4 [.int .u8 (ix l k : Nat)] ⟨[o0, (1, .cells (ty K p q tn vary pic)), (2, .cells [.int .i64 (n : Nat)]), (3, .cells [.list true 1 (dl l)]), (4, .loop .ready (e318 b) ok318r)], 5⟩ fun out m' => out = .ret (.bool true) ∧
      m' = ⟨[o0, (1, .cells (ty K p q tn vary pic)), (2, .cells [.int .i64 ((ix l k + 10 * n) % 2 ^ p : Nat)]), (3, .cells [.list true 1 (dl l)]), (4, .loop .ready (e318 b) ok318r)], 5⟩ := by
  refine ycalls_S (ps := [61]) (a := a318) (b := b318) (e := e318 b) rfl rfl ?_
  rw [show loopOk Bk.pg.toProgram Bk.imp [61] a318 b318 = ok318r from rfl]
  have hix := hd _ (ix_mem hk)
  have w1 : IntKind.i64.wrap ((ix l k : Nat) : Int) = (ix l k : Nat) := wrap64 (by omega) (by omega)
  have w2 : IntKind.i64.wrap ((n : Int) * 10) = (n : Int) * 10 := wrap64 (by omega) (by omega)
  have w3 : IntKind.i64.wrap ((n : Int) * 10 + (ix l k : Nat)) = ((ix l k + 10 * n : Nat) : Int) := by rw [wrap64 (by omega) (by omega)]; omega
  have hp2 : 2 ^ p ≤ 2 ^ 31 := Nat.pow_le_pow_right (by decide) hp.2
  have hp0 : 0 < 2 ^ p := Nat.pow_pos (by decide)
  have hb : min p IntKind.i64.bits = p := Nat.min_eq_left (by simp [IntKind.bits]; omega)
  have hpn : ¬ (p : Int) < 0 := by omega
  obtain ⟨P, hP⟩ : ∃ P : Nat, P = 2 ^ p := ⟨_, rfl⟩
  have w4 : IntKind.i64.wrap ((2 : Int) ^ p) = (P : Int) := by
    have : ((2 : Int) ^ p) = ((2 ^ p : Nat) : Int) := by simp
    rw [this, ← hP]
    exact wrap64 (by omega) (by omega)
  have w5 : IntKind.i64.wrap ((P : Int) - 1) = ((P - 1 : Nat) : Int) := by rw [wrap64 (by omega) (by omega)]; omega
  simp [a318, b318, Env.sets, e318, ty, w1, w2, w3, hpn]
  rw [hb, w4]
  have hand := and_mask (ix l k + 10 * n) p (by omega) (by omega)
  rw [← hP] at hand
  have e1 : ((ix l k + 10 * n : Nat) : Int) = ((ix l k : Nat) : Int) + 10 * (n : Int) := by omega
  rw [e1] at hand
  simp [w5, hand]
  have hPi : ((2 : Int) ^ p) = (P : Int) := by rw [hP]; simp
  rw [hPi]
  exact ⟨rfl, _, Mem.le_refl _, rfl, rfl⟩
def fixM (k : Int) (q n : Nat) (e : Int) : Nat :=
  if k = 1 then (if e < 0 then n * 2 ^ q / 10 ^ (-e).toNat else n * 2 ^ q * 10 ^ e.toNat)
  else (if e + q < 0 then n / 10 ^ (-(e + q)).toNat else n * 10 ^ (e + q).toNat)
def fixN (k : Int) (p q n : Nat) (e : Int) : Nat := fixM k q n e % (if k = 1 then 2 ^ p else 10 ^ p)
def fixL (k : Int) (p q n : Nat) (e : Int) : Bool := decide ((if k = 1 then 2 ^ p else 10 ^ p) ≤ fixM k q n e)
theorem drop_mod : ∀ (k : Nat) (l : List Nat) , Dg l → valD (l.take k) = valD l % 10 ^ k
  | 0, l, _ => by rw [List.take_zero, Nat.pow_zero, Nat.mod_one]; rfl
  | k + 1, [], _ => by simp [valD]
  | k + 1, d :: l, h => by
    have hd : d < 10 := h d (by simp)
    rw [List.take_succ_cons, valD, drop_mod k l fun x hx => h x (by simp [hx]), valD, Nat.pow_succ, Nat.mul_comm (10 ^ k) 10, Nat.mod_mul]
    have e1 : (d + 10 * valD l) % 10 = d := by omega
    have e2 : (d + 10 * valD l) / 10 = valD l := by omega
    rw [e1, e2]
theorem call318 {n p q : Nat} {k e tn : Int} {neg vary : Bool} {pic : ByteArray} (hk : k = 1 ∨ k = 2) (hp : 1 ≤ p ∧ p ≤ (if k = 1 then 31 else 18)) (hq : q ≤ 100) (hn : (digs n).length ≤ 500) (he : -500 ≤ e ∧ e ≤ 500) :
    PCalls Bk.pg 318 [.agg (lg n neg e), .agg (ty k p q tn vary pic)] fun out => out = .ret (.tuple [.int .i64 (if neg then -(fixN k p q n e : Int) else fixN k p q n e), .bool (fixL k p q n e)]) := by
  refine ok318.pcalls (by simp [lg, ty]) ?_
  rcases hk with rfl | rfl
  · simp only [if_true] at hp
    have z1 : eqI 1 1 = true := rfl
    have z2 : eqI 1 2 = false := rfl
    simp [c318, lg, ty, z1, z2]
    obtain ⟨M0, hM0⟩ : ∃ M0, M0 = n * 2 ^ q := ⟨_, rfl⟩
    have l2q : (digs (2 ^ q)).length ≤ 101 := Nat.le_trans (digs_le (Nat.pow_le_pow_left (by omega) q)) (by omega)
    obtain ⟨E, hE⟩ : ∃ E, E = 601 := ⟨_, rfl⟩
    have hM0l : M0 < 10 ^ E := by
      have h1 := digs_lt hn
      have h2 := digs_lt l2q
      rw [hM0]
      exact lt_pow_mul h1 h2 hE
    have ht := times (x := n) (y := 2 ^ q) (by omega) (by omega)
    rw [← hM0] at ht
    refine xcall_p (call255 2 q (by omega) (by omega)) (by simp) ?_
    simp
    refine xcall_p ht (by simp) ?_
    simp [z2]
    have hM0d := digs_len E M0 hM0l
    obtain ⟨M, hM⟩ : ∃ M, M = fixM 1 q n e := ⟨_, rfl⟩
    have hMx := hM
    simp only [fixM, if_true, ← hM0] at hMx
    have hcmp : leI 0 (cmpD (digs M) (digs (2 ^ p))) = fixL 1 p q n e := by
      rw [leI, fixL, ← hM]
      exact decide_eq_decide.2 ((cmp_sign M (2 ^ p)).1.trans (by simp))
    have h2p : (digs (2 ^ p)).length ≤ 1000 := Nat.le_trans (digs_le (Nat.pow_le_pow_left (by omega) p)) (by omega)
    have hp2 : 2 ^ p ≤ 2 ^ 31 := Nat.pow_le_pow_right (by decide) hp.2
    have hp0 : 0 < 2 ^ p := Nat.pow_pos (by decide)
    have hfin : valD (digs M) % 2 ^ p = fixN 1 p q n e := by rw [valD_digs, hM]; rfl
    have hfl : fixN 1 p q n e < 2 ^ 31 := by
      rw [← hfin]
      exact Nat.lt_of_lt_of_le (Nat.mod_lt _ hp0) hp2
    have w3 : IntKind.i64.wrap (-(fixN 1 p q n e : Nat) : Int) = -(fixN 1 p q n e : Nat) := wrap64 (by omega) (by omega)
    refine br_cond rfl (fun h1 => ?_) (fun h1 => ?_)
    · have hlt : e < 0 := ltI_t.1 h1
      obtain ⟨u, hu⟩ : ∃ u : Nat, u = (-e).toNat := ⟨_, rfl⟩
      have w2 : IntKind.i64.wrap (-e) = (u : Int) := by rw [wrap64 (by omega) (by omega)]; omega
      rw [if_pos hlt, ← hu] at hMx
      have hc := cutC (a := M0) (n := u) (by omega) (by omega)
      rw [← hMx] at hc
      have hl : (digs M).length ≤ 2000 := by
        rw [hMx]
        exact Nat.le_trans (digs_len E _ (Nat.lt_of_le_of_lt (Nat.div_le_self _ _) hM0l)) (by omega)
      simp [w2]
      refine xcall_p hc (by simp) ?_
      simp [z2]
      refine xcall_p (call255 2 p (by omega) (by omega)) (by simp) ?_
      simp
      refine xcall_p (call257 (digs M) (digs (2 ^ p)) (by omega) (by omega) (digs_dg _) (digs_dg _)) (by simp) ?_
      simp
      refine xcall_a call321 ?_
      simp
      rw [hcmp]
      refine wpS_rangeS (e318 (fixL 1 p q n e)) ⟨[(0, .cells (lg n neg e)), (1, .cells (ty 1 p q tn vary pic)), (2, .cells [.int .i64 0]), (3, .cells [.list true 1 (dl (digs M))])], 4⟩ (Sim.of_le (Env.le_of (by simp [e318])) (Mem.le_of rfl (by simp [lg, ty]))) rfl
        (call356 (pos := 4) (gen := 4) (p := 3) (g := 3) (l := digs M) (Inv := fun k m => k ≤ (digs M).length ∧ m = ⟨[(0, .cells (lg n neg e)), (1, .cells (ty 1 p q tn vary pic)), (2, .cells [.int .i64 (valD ((digs M).drop k) % 2 ^ p : Nat)]), (3, .cells [.list true 1 (dl (digs M))]), (4, .loop .ready (e318 (fixL 1 p q n e)) ok318r)], 5⟩) (by omega) ?hY ?hc ?h0) ?hr ?hp
      case hY =>
        rintro k m hk ⟨_, rfl⟩
        refine (round318 (p := p) hk (digs_dg M) ⟨by omega, by omega⟩ (Nat.lt_of_lt_of_le (Nat.mod_lt _ hp0) hp2)).mono ?_
        rintro out m' ⟨ho, rfl⟩
        have e1 : (ix (digs M) k + 10 * (valD ((digs M).drop (k + 1)) % 2 ^ p)) % 2 ^ p = valD ((digs M).drop k) % 2 ^ p := by
          rw [valD_drop hk]
          conv => lhs; rw [Nat.add_mod, Nat.mul_mod, Nat.mod_mod, ← Nat.mul_mod, ← Nat.add_mod]
        exact ⟨ho, by omega, by rw [e1]⟩
      case hc =>
        rintro k m ⟨_, rfl⟩
        rfl
      case h0 => exact ⟨Nat.le_refl _, by rw [List.drop_length]; simp [valD, Mem.new, ok318r, a318, b318]⟩
      case hr =>
        rintro v m' ⟨hv', _, rfl⟩
        refine ⟨.ready, e318 (fixL 1 p q n e), ok318r, rfl, ?_⟩
        rw [List.drop_zero, hfin]
        cases neg <;> simp [e318, lg, ty, cr318, w3]
      case hp =>
        rintro v m' ⟨hv', _⟩
        cases hv'
    · have hlt : ¬ e < 0 := by have := ltI_f.1 h1; omega
      obtain ⟨u, rfl⟩ : ∃ u : Nat, e = (u : Int) := ⟨e.toNat, by omega⟩
      rw [if_neg hlt, Int.toNat_natCast] at hMx
      have hc := upC (a := M0) (n := u) (by omega)
      rw [← hMx] at hc
      have hl : (digs M).length ≤ 2000 := by
        rw [hMx]
        refine Nat.le_trans (digs_len (E + u) _ ?_) (by omega)
        rw [Nat.pow_add]
        exact Nat.mul_lt_mul_of_pos_right hM0l (Nat.pow_pos (by decide))
      simp
      refine xcall_p hc (by simp) ?_
      simp [z2]
      refine xcall_p (call255 2 p (by omega) (by omega)) (by simp) ?_
      simp
      refine xcall_p (call257 (digs M) (digs (2 ^ p)) (by omega) (by omega) (digs_dg _) (digs_dg _)) (by simp) ?_
      simp
      refine xcall_a call321 ?_
      simp
      rw [hcmp]
      refine wpS_rangeS (e318 (fixL 1 p q n u)) ⟨[(0, .cells (lg n neg u)), (1, .cells (ty 1 p q tn vary pic)), (2, .cells [.int .i64 0]), (3, .cells [.list true 1 (dl (digs M))])], 4⟩ (Sim.of_le (Env.le_of (by simp [e318])) (Mem.le_of rfl (by simp [lg, ty]))) rfl
        (call356 (pos := 4) (gen := 4) (p := 3) (g := 3) (l := digs M) (Inv := fun k m => k ≤ (digs M).length ∧ m = ⟨[(0, .cells (lg n neg u)), (1, .cells (ty 1 p q tn vary pic)), (2, .cells [.int .i64 (valD ((digs M).drop k) % 2 ^ p : Nat)]), (3, .cells [.list true 1 (dl (digs M))]), (4, .loop .ready (e318 (fixL 1 p q n u)) ok318r)], 5⟩) (by omega) ?hY ?hc ?h0) ?hr ?hp
      case hY =>
        rintro k m hk ⟨_, rfl⟩
        refine (round318 (p := p) hk (digs_dg M) ⟨by omega, by omega⟩ (Nat.lt_of_lt_of_le (Nat.mod_lt _ hp0) hp2)).mono ?_
        rintro out m' ⟨ho, rfl⟩
        have e1 : (ix (digs M) k + 10 * (valD ((digs M).drop (k + 1)) % 2 ^ p)) % 2 ^ p = valD ((digs M).drop k) % 2 ^ p := by
          rw [valD_drop hk]
          conv => lhs; rw [Nat.add_mod, Nat.mul_mod, Nat.mod_mod, ← Nat.mul_mod, ← Nat.add_mod]
        exact ⟨ho, by omega, by rw [e1]⟩
      case hc =>
        rintro k m ⟨_, rfl⟩
        rfl
      case h0 => exact ⟨Nat.le_refl _, by rw [List.drop_length]; simp [valD, Mem.new, ok318r, a318, b318]⟩
      case hr =>
        rintro v m' ⟨hv', _, rfl⟩
        refine ⟨.ready, e318 (fixL 1 p q n u), ok318r, rfl, ?_⟩
        rw [List.drop_zero, hfin]
        cases neg <;> simp [e318, lg, ty, cr318, w3]
      case hp =>
        rintro v m' ⟨hv', _⟩
        cases hv'
  · simp only [show ¬ ((2 : Int) = 1) by decide, if_false] at hp
    have z1 : eqI 2 1 = false := rfl
    have z2 : eqI 2 2 = true := rfl
    have w1 : IntKind.i64.wrap (e + q) = e + q := wrap64 (by omega) (by omega)
    simp [c318, lg, ty, z1, z2, w1]
    obtain ⟨M, hM⟩ : ∃ M, M = fixM 2 q n e := ⟨_, rfl⟩
    have tail : (digs M).length ≤ 2000 → (ltI ↑p ↑(digs M).length = fixL 2 p q n e) ∧ PCalls Bk.pg 245 [.list true 1 (dl ((digs M).take p))] (fun out => out = .ret (.int .i64 (fixN 2 p q n e : Nat))) ∧ sliceA false true 1 [.list true 1 (dl (digs M)), .int .i64 (if p < (digs M).length then (p : Int) else (digs M).length)] = some (.list true 1 (dl ((digs M).take p))) ∧ fixN 2 p q n e < 10 ^ 18 := by
      intro hl
      have hv : valD ((digs M).take p) = fixN 2 p q n e := by
        rw [drop_mod _ _ (digs_dg M), valD_digs, hM]; rfl
      have hp18 : 10 ^ p ≤ 10 ^ 18 := Nat.pow_le_pow_right (by decide) hp.2
      have hlt : fixN 2 p q n e < 10 ^ p := Nat.mod_lt _ (Nat.pow_pos (by decide))
      refine ⟨?_, ?_, ?_, by omega⟩
      · have : (p < (digs M).length) ↔ 10 ^ p ≤ M := by
          rcases Nat.lt_or_ge M (10 ^ p) with h | h
          · have := digs_len _ _ h
            constructor <;> intro <;> omega
          · rcases Nat.lt_or_ge p (digs M).length with h2 | h2
            · constructor <;> intro <;> assumption
            · have := digs_lt h2
              omega
        rw [ltI, fixL, ← hM]
        exact decide_eq_decide.2 (by simp only [show ¬ ((2 : Int) = 1) by decide, if_false]; omega)
      · rw [← hv]
        exact call245 _ (fun d hd => digs_dg M d (List.mem_of_mem_take hd)) (by rw [hv]; omega) (by rw [List.length_take]; omega)
      · rcases Nat.lt_or_ge p (digs M).length with h | h
        · have h0 : p < (digs M).length := by omega
          have h1 : p ≤ (digs M).length := by omega
          simp [sliceA, boundsA, h0, h1, dl_take]
        · have h0 : ¬ p < (digs M).length := by omega
          simp [sliceA, boundsA, h0, dl_take]
          rw [List.take_of_length_le h]
    have hMx := hM
    simp only [fixM, show ¬ ((2 : Int) = 1) by decide, if_false] at hMx
    refine br_cond rfl (fun h1 => ?_) (fun h1 => ?_)
    · have hlt : e + q < 0 := ltI_t.1 h1
      obtain ⟨u, hu⟩ : ∃ u : Nat, u = (-(e + q)).toNat := ⟨_, rfl⟩
      have w2 : IntKind.i64.wrap (-(e + q)) = (u : Int) := by rw [wrap64 (by omega) (by omega)]; omega
      rw [if_pos hlt, ← hu] at hMx
      have hl : (digs M).length ≤ 2000 := by
        have := digs_lt hn
        rw [hMx]
        exact Nat.le_trans (digs_len 500 _ (Nat.lt_of_le_of_lt (Nat.div_le_self _ _) this)) (by omega)
      obtain ⟨t1, t2, t3, t4⟩ := tail hl
      have hc := cutC (a := n) (n := u) (by omega) (by omega)
      rw [← hMx] at hc
      simp [w2]
      refine xcall_p hc (by simp) ?_
      simp [z1, z2, t1, t3]
      refine xcall_p t2 (by simp) ?_
      have w3 : IntKind.i64.wrap (-(fixN 2 p q n e : Nat) : Int) = -(fixN 2 p q n e : Nat) := wrap64 (by omega) (by omega)
      cases neg <;> simp [cr318, w3]
    · have hlt : ¬ e + q < 0 := by have := ltI_f.1 h1; omega
      obtain ⟨u, hu⟩ : ∃ u : Nat, u = (e + q).toNat := ⟨_, rfl⟩
      have w2 : e + q = (u : Int) := by omega
      rw [if_neg hlt, ← hu] at hMx
      have hl : (digs M).length ≤ 2000 := by
        obtain ⟨E, hE⟩ : ∃ E, E = 500 := ⟨_, rfl⟩
        rw [← hE] at hn
        have h2 := digs_lt hn
        rw [hMx]
        refine Nat.le_trans (digs_len (E + u) _ ?_) (by omega)
        rw [Nat.pow_add]
        exact Nat.mul_lt_mul_of_pos_right h2 (Nat.pow_pos (by decide))
      obtain ⟨t1, t2, t3, t4⟩ := tail hl
      have hc := upC (a := n) (n := u) (by omega)
      rw [← hMx] at hc
      simp [w2]
      refine xcall_p hc (by simp) ?_
      simp [z1, z2, t1, t3]
      refine xcall_p t2 (by simp) ?_
      have w3 : IntKind.i64.wrap (-(fixN 2 p q n e : Nat) : Int) = -(fixN 2 p q n e : Nat) := wrap64 (by omega) (by omega)
      cases neg <;> simp [cr318, w3]
end Go.Pm

/- BkS2: code, resolved. Printed by ShowSC.lean and genok.py. -/
namespace Go.Pm
open Go Go.Proofs
def c31 : SC :=
 (.seq (.ops [⟨some 1, .plain (.box 6), [.tmp 0], none⟩, ⟨some 2, .plain .mv, [.lit (.bool false)], none⟩] []) (.seq (.ops [⟨some 4, .call 48, [], none⟩, ⟨some 3, .plain .mv, [.tmp 4], none⟩] [4]) (.seq (.draw (.step ⟨some 5, .plain (.fieldAddr 0), [.tmp 1], none⟩ (.step ⟨some 6, .plain (.load false 1), [.tmp 5], none⟩ (.step ⟨some 7, .plain .mv, [.tmp 3], none⟩ (.step ⟨some 8, .plain (.len 1), [.tmp 7], none⟩ (.step ⟨some 9, .plain (.bin .sub), [.tmp 8, .lit (.int .i64 1)], none⟩ (.step ⟨some 10, .call 49, [.tmp 6, .lit (.int .i64 0), .tmp 9], none⟩ (.step ⟨some 11, .plain .mv, [.tmp 10], none⟩ (.step ⟨some 12, .plain .mv, [.tmp 3], (some (11, true))⟩ (.step ⟨some 13, .plain (.fieldAddr 0), [.tmp 1], (some (11, true))⟩ (.step ⟨some 14, .plain (.load false 1), [.tmp 13], (some (11, true))⟩ (.step ⟨some 15, .plain (.indexAddr 1), [.tmp 12, .tmp 14], (some (11, true))⟩ (.step ⟨some 16, .plain (.load false 1), [.tmp 15], (some (11, true))⟩ (.step ⟨some 17, .plain (.load true 6), [.tmp 1], (some (11, true))⟩ (.step ⟨some 18, .callv, [.tmp 16, .tmp 17], (some (11, true))⟩ (.step ⟨some 19, .plain .pick, [.tmp 11, .tmp 18, .lit (.bool false)], none⟩ (.step ⟨some 2, .plain .mv, [.tmp 19], none⟩ .done)))))))))))))))) [5, 6, 7, 8, 9, 10, 11, 12, 13, 14, 15, 16, 17, 18, 19]) .ret)))
def cr31 : List Res := [(2, none)]
def c48 : SC :=
 (.seq (.ops [⟨some 0, .plain .mv, [.lit .nilS], none⟩] []) (.seq (.ops [⟨some 1, .plain .mv, [.lit (.fn 127 [])], none⟩] []) (.seq (.ops [⟨some 2, .plain .mv, [.lit (.fn 129 [])], none⟩] []) (.seq (.ops [⟨some 3, .plain .mv, [.lit (.fn 130 [])], none⟩] []) (.seq (.ops [⟨some 4, .plain .mv, [.lit (.fn 131 [])], none⟩] []) (.seq (.ops [⟨some 5, .plain .mv, [.lit (.fn 132 [])], none⟩] []) (.seq (.ops [⟨some 6, .plain .mv, [.tmp 5], none⟩, ⟨some 7, .plain .mv, [.tmp 1], none⟩, ⟨some 8, .callv, [.tmp 7, .lit (.int .i64 31), .lit (.int .i64 31)], none⟩, ⟨some 9, .plain .mv, [.tmp 1], none⟩, ⟨some 10, .callv, [.tmp 9, .lit (.int .i64 15), .lit (.int .i64 31)], none⟩, ⟨some 11, .plain .mv, [.tmp 1], none⟩, ⟨some 12, .callv, [.tmp 11, .lit (.int .i64 15), .lit (.int .i64 0)], none⟩, ⟨some 13, .plain .mv, [.tmp 2], none⟩, ⟨some 14, .plain .mv, [.tmp 2], none⟩, ⟨some 15, .plain .mv, [.tmp 4], none⟩, ⟨some 16, .plain .mv, [.tmp 3], none⟩, ⟨some 17, .plain .mv, [.tmp 3], none⟩, ⟨some 18, .plain .mv, [.tmp 3], none⟩, ⟨some 19, .plain (.buildRow 64 1 10 [(.const .nilFunc)] [0, 1, 2, 3, 4, 5, 6, 7, 8, 9]), [.tmp 6, .tmp 8, .tmp 10, .tmp 12, .tmp 13, .tmp 14, .tmp 15, .tmp 16, .tmp 17, .tmp 18], none⟩, ⟨some 0, .plain .mv, [.tmp 19], none⟩] [6, 7, 8, 9, 10, 11, 12, 13, 14, 15, 16, 17, 18, 19]) .ret)))))))
def cr48 : List Res := [(0, none)]
theorem ok48 : FOk Bk.pg.toProgram Bk.imp 48 c48 cr48 Tryz.f48.ntmps := ⟨Tryz.f48, _, Tryz.func48, rfl, by kernel_rfl, by kernel_rfl, by kernel_rfl, rfl⟩
def c127 : SC :=
 (.seq (.ops [⟨some 2, .plain (.box 1), [.tmp 0], none⟩, ⟨some 3, .plain (.box 1), [.tmp 1], none⟩, ⟨some 4, .plain .mv, [.lit (.const .nilFunc)], none⟩] []) (.seq (.ops [⟨some 5, .plain (.mkFn 128), [.tmp 2, .tmp 3], none⟩, ⟨some 4, .plain .mv, [.tmp 5], none⟩] [5]) .ret))
def cr127 : List Res := [(4, none)]
theorem ok127 : FOk Bk.pg.toProgram Bk.imp 127 c127 cr127 Tryz.f127.ntmps := ⟨Tryz.f127, _, Tryz.func127, rfl, by kernel_rfl, by kernel_rfl, by kernel_rfl, rfl⟩
def c128 : SC :=
 (.seq (.ops [⟨some 3, .plain (.box 6), [.tmp 0], none⟩, ⟨some 4, .plain .mv, [.lit (.bool false)], none⟩] []) (.seq (.ops [⟨some 5, .plain (.fieldAddr 1), [.tmp 3], none⟩, ⟨some 6, .plain (.load false 1), [.tmp 5], none⟩, ⟨some 7, .plain (.load false 1), [.tmp 1], none⟩, ⟨some 8, .call 49, [.tmp 6, .lit (.int .i64 1), .tmp 7], none⟩, ⟨some 9, .plain .mv, [.tmp 8], none⟩, ⟨some 10, .plain (.fieldAddr 2), [.tmp 3], (some (9, true))⟩, ⟨some 11, .plain (.load false 1), [.tmp 10], (some (9, true))⟩, ⟨some 12, .plain (.load false 1), [.tmp 2], (some (9, true))⟩, ⟨some 13, .call 49, [.tmp 11, .lit (.int .i64 0), .tmp 12], (some (9, true))⟩, ⟨some 14, .plain .pick, [.tmp 9, .tmp 13, .lit (.bool false)], none⟩, ⟨some 15, .plain .mv, [.tmp 14], none⟩, ⟨some 16, .plain (.fieldAddr 3), [.tmp 3], (some (15, true))⟩, ⟨some 17, .plain (.load false 1), [.tmp 16], (some (15, true))⟩, ⟨some 18, .plain (.bin .eql), [.tmp 17, .lit (.int .i64 0)], (some (15, true))⟩, ⟨some 19, .plain .pick, [.tmp 15, .tmp 18, .lit (.bool false)], none⟩, ⟨some 20, .plain .mv, [.tmp 19], none⟩, ⟨some 21, .plain (.fieldAddr 4), [.tmp 3], (some (20, true))⟩, ⟨some 22, .plain (.load false 1), [.tmp 21], (some (20, true))⟩, ⟨some 23, .plain (.un .not), [.tmp 22], (some (20, true))⟩, ⟨some 24, .plain .pick, [.tmp 20, .tmp 23, .lit (.bool false)], none⟩, ⟨some 25, .plain .mv, [.tmp 24], none⟩, ⟨some 26, .plain (.fieldAddr 5), [.tmp 3], (some (25, true))⟩, ⟨some 27, .plain (.load false 1), [.tmp 26], (some (25, true))⟩, ⟨some 28, .plain (.bin .eql), [.tmp 27, .lit (.str ⟨#[]⟩)], (some (25, true))⟩, ⟨some 29, .plain .pick, [.tmp 25, .tmp 28, .lit (.bool false)], none⟩, ⟨some 4, .plain .mv, [.tmp 29], none⟩] [5, 6, 7, 8, 9, 10, 11, 12, 13, 14, 15, 16, 17, 18, 19, 20, 21, 22, 23, 24, 25, 26, 27, 28, 29]) .ret))
def cr128 : List Res := [(4, none)]
theorem ok128 : FOk Bk.pg.toProgram Bk.imp 128 c128 cr128 Tryz.f128.ntmps := ⟨Tryz.f128, _, Tryz.func128, rfl, by kernel_rfl, by kernel_rfl, by kernel_rfl, rfl⟩
def c129 : SC :=
 (.seq (.ops [⟨some 1, .plain (.box 6), [.tmp 0], none⟩, ⟨some 2, .plain .mv, [.lit (.bool false)], none⟩] []) (.seq (.ops [⟨some 3, .plain (.fieldAddr 1), [.tmp 1], none⟩, ⟨some 4, .plain (.load false 1), [.tmp 3], none⟩, ⟨some 5, .plain (.bin .eql), [.tmp 4, .lit (.int .i64 0)], none⟩, ⟨some 6, .plain .mv, [.tmp 5], none⟩, ⟨some 7, .plain (.fieldAddr 2), [.tmp 1], (some (6, true))⟩, ⟨some 8, .plain (.load false 1), [.tmp 7], (some (6, true))⟩, ⟨some 9, .plain (.bin .eql), [.tmp 8, .lit (.int .i64 0)], (some (6, true))⟩, ⟨some 10, .plain .pick, [.tmp 6, .tmp 9, .lit (.bool false)], none⟩, ⟨some 11, .plain .mv, [.tmp 10], none⟩, ⟨some 12, .plain (.fieldAddr 3), [.tmp 1], (some (11, true))⟩, ⟨some 13, .plain (.load false 1), [.tmp 12], (some (11, true))⟩, ⟨some 14, .call 49, [.tmp 13, .lit (.int .i64 0), .lit (.int .i64 250)], (some (11, true))⟩, ⟨some 15, .plain .pick, [.tmp 11, .tmp 14, .lit (.bool false)], none⟩, ⟨some 16, .plain .mv, [.tmp 15], none⟩, ⟨some 17, .plain (.fieldAddr 5), [.tmp 1], (some (16, true))⟩, ⟨some 18, .plain (.load false 1), [.tmp 17], (some (16, true))⟩, ⟨some 19, .plain (.bin .eql), [.tmp 18, .lit (.str ⟨#[]⟩)], (some (16, true))⟩, ⟨some 20, .plain .pick, [.tmp 16, .tmp 19, .lit (.bool false)], none⟩, ⟨some 2, .plain .mv, [.tmp 20], none⟩] [3, 4, 5, 6, 7, 8, 9, 10, 11, 12, 13, 14, 15, 16, 17, 18, 19, 20]) .ret))
def cr129 : List Res := [(2, none)]
theorem ok129 : FOk Bk.pg.toProgram Bk.imp 129 c129 cr129 Tryz.f129.ntmps := ⟨Tryz.f129, _, Tryz.func129, rfl, by kernel_rfl, by kernel_rfl, by kernel_rfl, rfl⟩
def c130 : SC :=
 (.seq (.ops [⟨some 1, .plain (.box 6), [.tmp 0], none⟩, ⟨some 2, .plain .mv, [.lit (.bool false)], none⟩] []) (.seq (.ops [⟨some 3, .plain (.load true 6), [.tmp 1], none⟩, ⟨some 4, .plain (.fieldAddr 0), [.tmp 1], none⟩, ⟨some 5, .plain (.load false 1), [.tmp 4], none⟩, ⟨some 6, .plain (.build [(.int .i64 0), (.int .i64 0), (.int .i64 0), (.int .i64 0), (.bool false), (.str ⟨#[]⟩)] [(0, 1)]), [.tmp 5], none⟩, ⟨some 7, .plain (.eqAgg false [.int, .int, .int, .int, .bool, .str]), [.tmp 3, .tmp 6], none⟩, ⟨some 2, .plain .mv, [.tmp 7], none⟩] [3, 4, 5, 6, 7]) .ret))
def cr130 : List Res := [(2, none)]
theorem ok130 : FOk Bk.pg.toProgram Bk.imp 130 c130 cr130 Tryz.f130.ntmps := ⟨Tryz.f130, _, Tryz.func130, rfl, by kernel_rfl, by kernel_rfl, by kernel_rfl, rfl⟩
def c131 : SC :=
 (.seq (.ops [⟨some 1, .plain (.box 6), [.tmp 0], none⟩, ⟨some 2, .plain .mv, [.lit (.bool false)], none⟩] []) (.seq (.ops [⟨some 3, .plain (.fieldAddr 5), [.tmp 1], none⟩, ⟨some 4, .plain (.load false 1), [.tmp 3], none⟩, ⟨some 5, .plain (.len 0), [.tmp 4], none⟩, ⟨some 6, .call 49, [.tmp 5, .lit (.int .i64 1), .lit (.int .i64 80)], none⟩, ⟨some 7, .plain .mv, [.tmp 6], none⟩, ⟨some 8, .plain (.load true 6), [.tmp 1], (some (7, true))⟩, ⟨some 9, .plain (.fieldAddr 0), [.tmp 1], (some (7, true))⟩, ⟨some 10, .plain (.load false 1), [.tmp 9], (some (7, true))⟩, ⟨some 11, .plain (.fieldAddr 5), [.tmp 1], (some (7, true))⟩, ⟨some 12, .plain (.load false 1), [.tmp 11], (some (7, true))⟩, ⟨some 13, .plain (.build [(.int .i64 0), (.int .i64 0), (.int .i64 0), (.int .i64 0), (.bool false), (.str ⟨#[]⟩)] [(0, 1), (5, 1)]), [.tmp 10, .tmp 12], (some (7, true))⟩, ⟨some 14, .plain (.eqAgg false [.int, .int, .int, .int, .bool, .str]), [.tmp 8, .tmp 13], (some (7, true))⟩, ⟨some 15, .plain .pick, [.tmp 7, .tmp 14, .lit (.bool false)], none⟩, ⟨some 2, .plain .mv, [.tmp 15], none⟩] [3, 4, 5, 6, 7, 8, 9, 10, 11, 12, 13, 14, 15]) .ret))
def cr131 : List Res := [(2, none)]
theorem ok131 : FOk Bk.pg.toProgram Bk.imp 131 c131 cr131 Tryz.f131.ntmps := ⟨Tryz.f131, _, Tryz.func131, rfl, by kernel_rfl, by kernel_rfl, by kernel_rfl, rfl⟩
def c132 : SC :=
 (.seq (.ops [⟨some 1, .plain (.box 6), [.tmp 0], none⟩, ⟨some 2, .plain .mv, [.lit (.bool false)], none⟩] [1]) (.seq (.ops [⟨some 2, .plain .mv, [.lit (.bool false)], none⟩] []) .ret))
def cr132 : List Res := [(2, none)]
theorem ok132 : FOk Bk.pg.toProgram Bk.imp 132 c132 cr132 Tryz.f132.ntmps := ⟨Tryz.f132, _, Tryz.func132, rfl, by kernel_rfl, by kernel_rfl, by kernel_rfl, rfl⟩
def c51 : SC :=
 (.seq (.ops [⟨some 1, .plain (.box 4), [.tmp 0], none⟩, ⟨some 2, .plain .mv, [.lit (.bool false)], none⟩] []) (.seq (.seq (.ops [⟨some 3, .plain (.fieldAddr 0), [.tmp 1], none⟩, ⟨some 4, .plain (.load false 1), [.tmp 3], none⟩] [3]) (.block 0 (.seq (.ops [⟨some 6, .plain (.bin .eql), [.tmp 4, .lit (.int .i64 1)], none⟩, ⟨some 5, .plain .mv, [.tmp 6], none⟩] [6]) (.cond (.tmp 5) (.seq (.ops [⟨some 7, .plain (.fieldAddr 3), [.tmp 1], none⟩, ⟨some 8, .plain (.load false 1), [.tmp 7], none⟩, ⟨some 9, .plain (.bin .eql), [.tmp 8, .lit (.str ⟨#[]⟩)], none⟩, ⟨some 10, .plain .mv, [.tmp 9], none⟩, ⟨some 11, .plain (.fieldAddr 2), [.tmp 1], (some (10, true))⟩, ⟨some 12, .plain (.load false 1), [.tmp 11], (some (10, true))⟩, ⟨some 13, .call 49, [.tmp 12, .lit (.int .i64 0), .lit (.int .i64 31)], (some (10, true))⟩, ⟨some 14, .plain .pick, [.tmp 10, .tmp 13, .lit (.bool false)], none⟩, ⟨some 15, .plain .mv, [.tmp 14], none⟩, ⟨some 16, .plain (.fieldAddr 1), [.tmp 1], (some (15, true))⟩, ⟨some 17, .plain (.load false 1), [.tmp 16], (some (15, true))⟩, ⟨some 18, .call 49, [.tmp 17, .lit (.int .i64 (-2147483647)), .lit (.int .i64 2147483647)], (some (15, true))⟩, ⟨some 19, .plain .pick, [.tmp 15, .tmp 18, .lit (.bool false)], none⟩, ⟨some 2, .plain .mv, [.tmp 19], none⟩] [7, 8, 9, 10, 11, 12, 13, 14, 15, 16, 17, 18, 19]) .ret) (.seq (.ops [⟨some 21, .plain (.bin .eql), [.tmp 4, .lit (.int .i64 2)], none⟩, ⟨some 20, .plain .mv, [.tmp 21], none⟩] [21]) (.cond (.tmp 20) (.seq (.ops [⟨some 22, .plain (.fieldAddr 3), [.tmp 1], none⟩, ⟨some 23, .plain (.load false 1), [.tmp 22], none⟩, ⟨some 24, .plain (.bin .eql), [.tmp 23, .lit (.str ⟨#[]⟩)], none⟩, ⟨some 25, .plain .mv, [.tmp 24], none⟩, ⟨some 26, .plain (.fieldAddr 2), [.tmp 1], (some (25, true))⟩, ⟨some 27, .plain (.load false 1), [.tmp 26], (some (25, true))⟩, ⟨some 28, .call 49, [.tmp 27, .lit (.int .i64 0), .lit (.int .i64 31)], (some (25, true))⟩, ⟨some 29, .plain .pick, [.tmp 25, .tmp 28, .lit (.bool false)], none⟩, ⟨some 30, .plain .mv, [.tmp 29], none⟩, ⟨some 31, .plain (.fieldAddr 1), [.tmp 1], (some (30, true))⟩, ⟨some 32, .plain (.load false 1), [.tmp 31], (some (30, true))⟩, ⟨some 33, .call 49, [.tmp 32, .lit (.int .i64 (-999999999999999)), .lit (.int .i64 999999999999999)], (some (30, true))⟩, ⟨some 34, .plain .pick, [.tmp 30, .tmp 33, .lit (.bool false)], none⟩, ⟨some 2, .plain .mv, [.tmp 34], none⟩] [22, 23, 24, 25, 26, 27, 28, 29, 30, 31, 32, 33, 34]) .ret) (.seq (.ops [⟨some 36, .plain (.bin .eql), [.tmp 4, .lit (.int .i64 3)], none⟩, ⟨some 35, .plain .mv, [.tmp 36], none⟩] [36]) (.cond (.tmp 35) (.seq (.seq (.ops [⟨some 37, .plain (.fieldAddr 3), [.tmp 1], none⟩, ⟨some 38, .plain (.load false 1), [.tmp 37], none⟩, ⟨some 39, .plain (.bin .neq), [.tmp 38, .lit (.str ⟨#[]⟩)], none⟩, ⟨some 40, .plain .mv, [.tmp 39], none⟩, ⟨some 41, .plain (.fieldAddr 1), [.tmp 1], (some (40, false))⟩, ⟨some 42, .plain (.load false 1), [.tmp 41], (some (40, false))⟩, ⟨some 43, .call 49, [.tmp 42, .lit (.int .i64 (-999999999999999)), .lit (.int .i64 999999999999999)], (some (40, false))⟩, ⟨some 44, .plain (.un .not), [.tmp 43], (some (40, false))⟩, ⟨some 45, .plain .pick, [.tmp 40, .lit (.bool true), .tmp 44], none⟩, ⟨some 46, .plain .mv, [.tmp 45], none⟩, ⟨some 47, .plain (.fieldAddr 2), [.tmp 1], (some (46, false))⟩, ⟨some 48, .plain (.load false 1), [.tmp 47], (some (46, false))⟩, ⟨some 49, .call 49, [.tmp 48, .lit (.int .i64 (-1000)), .lit (.int .i64 1000)], (some (46, false))⟩, ⟨some 50, .plain (.un .not), [.tmp 49], (some (46, false))⟩, ⟨some 51, .plain .pick, [.tmp 46, .lit (.bool true), .tmp 50], none⟩] [37, 38, 39, 40, 41, 42, 43, 44, 45, 46, 47, 48, 49, 50]) (.cond (.tmp 51) (.seq (.ops [⟨some 2, .plain .mv, [.lit (.bool false)], none⟩] []) .ret) .skip)) (.seq (.seq (.ops [⟨some 52, .plain (.fieldAddr 1), [.tmp 1], none⟩, ⟨some 53, .plain (.load false 1), [.tmp 52], none⟩, ⟨some 54, .plain (.bin .eql), [.tmp 53, .lit (.int .i64 0)], none⟩] [52, 53]) (.cond (.tmp 54) (.seq (.ops [⟨some 55, .plain (.fieldAddr 2), [.tmp 1], none⟩, ⟨some 56, .plain (.load false 1), [.tmp 55], none⟩, ⟨some 57, .plain (.bin .eql), [.tmp 56, .lit (.int .i64 0)], none⟩, ⟨some 2, .plain .mv, [.tmp 57], none⟩] [55, 56, 57]) .ret) .skip)) (.seq (.draw (.step ⟨some 58, .plain (.fieldAddr 1), [.tmp 1], none⟩ (.step ⟨some 59, .plain (.load false 1), [.tmp 58], none⟩ (.step ⟨some 60, .plain (.bin .rem), [.tmp 59, .lit (.int .i64 10)], none⟩ (.step ⟨some 61, .plain (.bin .neq), [.tmp 60, .lit (.int .i64 0)], none⟩ (.step ⟨some 62, .plain .mv, [.tmp 61], none⟩ (.step ⟨some 63, .plain (.fieldAddr 1), [.tmp 1], (some (62, true))⟩ (.step ⟨some 64, .plain (.load false 1), [.tmp 63], (some (62, true))⟩ (.step ⟨some 65, .plain (.fieldAddr 1), [.tmp 1], (some (62, true))⟩ (.step ⟨some 66, .plain (.load false 1), [.tmp 65], (some (62, true))⟩ (.step ⟨some 67, .plain (.un .neg), [.tmp 66], (some (62, true))⟩ (.step ⟨some 68, .plain .max2, [.tmp 64, .tmp 67], (some (62, true))⟩ (.step ⟨some 69, .call 52, [.tmp 68], (some (62, true))⟩ (.step ⟨some 70, .plain (.len 1), [.tmp 69], (some (62, true))⟩ (.step ⟨some 71, .plain (.fieldAddr 2), [.tmp 1], (some (62, true))⟩ (.step ⟨some 72, .plain (.load false 1), [.tmp 71], (some (62, true))⟩ (.step ⟨some 73, .plain (.bin .add), [.tmp 70, .tmp 72], (some (62, true))⟩ (.step ⟨some 74, .plain (.bin .sub), [.tmp 73, .lit (.int .i64 1)], (some (62, true))⟩ (.step ⟨some 75, .call 49, [.tmp 74, .lit (.int .i64 (-75)), .lit (.int .i64 75)], (some (62, true))⟩ (.step ⟨some 76, .plain .pick, [.tmp 62, .tmp 75, .lit (.bool false)], none⟩ (.step ⟨some 2, .plain .mv, [.tmp 76], none⟩ .done)))))))))))))))))))) [58, 59, 60, 61, 62, 63, 64, 65, 66, 67, 68, 69, 70, 71, 72, 73, 74, 75, 76]) .ret))) (.seq (.seq (.ops [⟨some 78, .plain (.bin .eql), [.tmp 4, .lit (.int .i64 4)], none⟩, ⟨some 77, .plain .mv, [.tmp 78], none⟩] [78]) (.cond (.tmp 77) .skip (.ops [⟨some 79, .plain (.bin .eql), [.tmp 4, .lit (.int .i64 6)], none⟩, ⟨some 77, .plain .mv, [.tmp 79], none⟩] [79]))) (.cond (.tmp 77) (.seq (.ops [⟨some 80, .plain (.fieldAddr 1), [.tmp 1], none⟩, ⟨some 81, .plain (.load false 1), [.tmp 80], none⟩, ⟨some 82, .plain (.bin .eql), [.tmp 81, .lit (.int .i64 0)], none⟩, ⟨some 83, .plain .mv, [.tmp 82], none⟩, ⟨some 84, .plain (.fieldAddr 2), [.tmp 1], (some (83, true))⟩, ⟨some 85, .plain (.load false 1), [.tmp 84], (some (83, true))⟩, ⟨some 86, .plain (.bin .eql), [.tmp 85, .lit (.int .i64 0)], (some (83, true))⟩, ⟨some 87, .plain .pick, [.tmp 83, .tmp 86, .lit (.bool false)], none⟩, ⟨some 88, .plain .mv, [.tmp 87], none⟩, ⟨some 89, .plain (.fieldAddr 3), [.tmp 1], (some (88, true))⟩, ⟨some 90, .plain (.load false 1), [.tmp 89], (some (88, true))⟩, ⟨some 91, .plain (.len 0), [.tmp 90], (some (88, true))⟩, ⟨some 92, .plain (.bin .leq), [.tmp 91, .lit (.int .i64 250)], (some (88, true))⟩, ⟨some 93, .plain .pick, [.tmp 88, .tmp 92, .lit (.bool false)], none⟩, ⟨some 2, .plain .mv, [.tmp 93], none⟩] [80, 81, 82, 83, 84, 85, 86, 87, 88, 89, 90, 91, 92, 93]) .ret) (.seq (.ops [⟨some 95, .plain (.bin .eql), [.tmp 4, .lit (.int .i64 5)], none⟩, ⟨some 94, .plain .mv, [.tmp 95], none⟩] [95]) (.cond (.tmp 94) (.seq (.ops [⟨some 96, .plain (.fieldAddr 1), [.tmp 1], none⟩, ⟨some 97, .plain (.load false 1), [.tmp 96], none⟩, ⟨some 98, .plain (.bin .eql), [.tmp 97, .lit (.int .i64 0)], none⟩, ⟨some 99, .plain .mv, [.tmp 98], none⟩, ⟨some 100, .plain (.fieldAddr 2), [.tmp 1], (some (99, true))⟩, ⟨some 101, .plain (.load false 1), [.tmp 100], (some (99, true))⟩, ⟨some 102, .plain (.bin .eql), [.tmp 101, .lit (.int .i64 0)], (some (99, true))⟩, ⟨some 103, .plain .pick, [.tmp 99, .tmp 102, .lit (.bool false)], none⟩, ⟨some 104, .plain .mv, [.tmp 103], none⟩, ⟨some 105, .plain (.fieldAddr 3), [.tmp 1], (some (104, true))⟩, ⟨some 106, .plain (.load false 1), [.tmp 105], (some (104, true))⟩, ⟨some 107, .plain (.len 0), [.tmp 106], (some (104, true))⟩, ⟨some 108, .plain (.bin .leq), [.tmp 107, .lit (.int .i64 250)], (some (104, true))⟩, ⟨some 109, .plain .pick, [.tmp 104, .tmp 108, .lit (.bool false)], none⟩, ⟨some 110, .plain .mv, [.tmp 109], none⟩, ⟨some 111, .plain (.fieldAddr 3), [.tmp 1], (some (110, true))⟩, ⟨some 112, .plain (.load false 1), [.tmp 111], (some (110, true))⟩, ⟨some 113, .call 134, [.tmp 112, .lit (.str ⟨#[48, 49]⟩)], (some (110, true))⟩, ⟨some 114, .plain (.bin .eql), [.tmp 113, .lit (.str ⟨#[]⟩)], (some (110, true))⟩, ⟨some 115, .plain .pick, [.tmp 110, .tmp 114, .lit (.bool false)], none⟩, ⟨some 2, .plain .mv, [.tmp 115], none⟩] [96, 97, 98, 99, 100, 101, 102, 103, 104, 105, 106, 107, 108, 109, 110, 111, 112, 113, 114, 115]) .ret) (.seq (.ops [⟨some 117, .plain (.bin .eql), [.tmp 4, .lit (.int .i64 7)], none⟩, ⟨some 116, .plain .mv, [.tmp 117], none⟩] [117]) (.cond (.tmp 116) (.seq (.ops [⟨some 118, .plain (.fieldAddr 3), [.tmp 1], none⟩, ⟨some 119, .plain (.load false 1), [.tmp 118], none⟩, ⟨some 120, .plain (.bin .eql), [.tmp 119, .lit (.str ⟨#[]⟩)], none⟩, ⟨some 121, .plain .mv, [.tmp 120], none⟩, ⟨some 122, .plain (.fieldAddr 2), [.tmp 1], (some (121, true))⟩, ⟨some 123, .plain (.load false 1), [.tmp 122], (some (121, true))⟩, ⟨some 124, .plain (.bin .eql), [.tmp 123, .lit (.int .i64 0)], (some (121, true))⟩, ⟨some 125, .plain .pick, [.tmp 121, .tmp 124, .lit (.bool false)], none⟩, ⟨some 126, .plain .mv, [.tmp 125], none⟩, ⟨some 127, .plain (.fieldAddr 1), [.tmp 1], (some (126, true))⟩, ⟨some 128, .plain (.load false 1), [.tmp 127], (some (126, true))⟩, ⟨some 129, .call 49, [.tmp 128, .lit (.int .i64 0), .lit (.int .i64 1000000000)], (some (126, true))⟩, ⟨some 130, .plain .pick, [.tmp 126, .tmp 129, .lit (.bool false)], none⟩, ⟨some 2, .plain .mv, [.tmp 130], none⟩] [118, 119, 120, 121, 122, 123, 124, 125, 126, 127, 128, 129, 130]) .ret) (.seq (.seq (.ops [⟨some 132, .plain (.bin .eql), [.tmp 4, .lit (.int .i64 8)], none⟩, ⟨some 131, .plain .mv, [.tmp 132], none⟩] [132]) (.cond (.tmp 131) .skip (.ops [⟨some 133, .plain (.bin .eql), [.tmp 4, .lit (.int .i64 9)], none⟩, ⟨some 131, .plain .mv, [.tmp 133], none⟩] [133]))) (.cond (.tmp 131) (.seq (.ops [⟨some 134, .plain (.fieldAddr 3), [.tmp 1], none⟩, ⟨some 135, .plain (.load false 1), [.tmp 134], none⟩, ⟨some 136, .plain (.bin .eql), [.tmp 135, .lit (.str ⟨#[]⟩)], none⟩, ⟨some 137, .plain .mv, [.tmp 136], none⟩, ⟨some 138, .plain (.fieldAddr 1), [.tmp 1], (some (137, true))⟩, ⟨some 139, .plain (.load false 1), [.tmp 138], (some (137, true))⟩, ⟨some 140, .call 49, [.tmp 139, .lit (.int .i64 0), .lit (.int .i64 1000000000)], (some (137, true))⟩, ⟨some 141, .plain .pick, [.tmp 137, .tmp 140, .lit (.bool false)], none⟩, ⟨some 142, .plain .mv, [.tmp 141], none⟩, ⟨some 143, .plain (.fieldAddr 2), [.tmp 1], (some (142, true))⟩, ⟨some 144, .plain (.load false 1), [.tmp 143], (some (142, true))⟩, ⟨some 145, .call 49, [.tmp 144, .lit (.int .i64 0), .lit (.int .i64 1000000000)], (some (142, true))⟩, ⟨some 146, .plain .pick, [.tmp 142, .tmp 145, .lit (.bool false)], none⟩, ⟨some 2, .plain .mv, [.tmp 146], none⟩] [134, 135, 136, 137, 138, 139, 140, 141, 142, 143, 144, 145, 146]) .ret) .skip)))))))))))))))) (.seq (.ops [⟨some 2, .plain .mv, [.lit (.bool false)], none⟩] []) .ret)))
def cr51 : List Res := [(2, none)]
theorem ok51 : FOk Bk.pg.toProgram Bk.imp 51 c51 cr51 Tryz.f51.ntmps := ⟨Tryz.f51, _, Tryz.func51, rfl, by kernel_rfl, by kernel_rfl, by kernel_rfl, rfl⟩
def c33 : SC :=
 (.seq (.ops [⟨some 2, .plain (.box 6), [.tmp 0], none⟩, ⟨some 3, .plain (.box 4), [.tmp 1], none⟩, ⟨some 4, .plain .mv, [.lit (.bool false)], none⟩] []) (.seq (.seq (.ops [⟨some 6, .plain (.load true 6), [.tmp 2], none⟩, ⟨some 7, .call 31, [.tmp 6], none⟩, ⟨some 8, .plain (.un .not), [.tmp 7], none⟩, ⟨some 9, .plain .mv, [.tmp 8], none⟩, ⟨some 10, .plain (.load true 4), [.tmp 3], (some (9, false))⟩, ⟨some 11, .call 51, [.tmp 10], (some (9, false))⟩, ⟨some 12, .plain (.un .not), [.tmp 11], (some (9, false))⟩, ⟨some 13, .plain .pick, [.tmp 9, .lit (.bool true), .tmp 12], none⟩, ⟨some 14, .plain .mv, [.tmp 13], none⟩, ⟨some 15, .plain (.fieldAddr 0), [.tmp 2], (some (14, false))⟩, ⟨some 16, .plain (.load false 1), [.tmp 15], (some (14, false))⟩, ⟨some 17, .plain (.fieldAddr 0), [.tmp 3], (some (14, false))⟩, ⟨some 18, .plain (.load false 1), [.tmp 17], (some (14, false))⟩, ⟨some 19, .plain (.bin .neq), [.tmp 16, .tmp 18], (some (14, false))⟩, ⟨some 20, .plain .pick, [.tmp 14, .lit (.bool true), .tmp 19], none⟩] [6, 7, 8, 9, 10, 11, 12, 13, 14, 15, 16, 17, 18, 19]) (.cond (.tmp 20) (.seq (.ops [⟨some 4, .plain .mv, [.lit (.bool false)], none⟩] []) .ret) .skip)) (.seq (.ops [⟨some 21, .plain (.fieldAddr 1), [.tmp 3], none⟩, ⟨some 22, .plain (.load false 1), [.tmp 21], none⟩, ⟨some 23, .plain (.fieldAddr 1), [.tmp 3], none⟩, ⟨some 24, .plain (.load false 1), [.tmp 23], none⟩, ⟨some 25, .plain (.un .neg), [.tmp 24], none⟩, ⟨some 26, .plain .max2, [.tmp 22, .tmp 25], none⟩, ⟨some 5, .plain .mv, [.tmp 26], none⟩] [21, 22, 23, 24, 25, 26]) (.seq (.seq (.ops [⟨some 27, .plain (.fieldAddr 0), [.tmp 2], none⟩, ⟨some 28, .plain (.load false 1), [.tmp 27], none⟩] [27]) (.block 0 (.seq (.ops [⟨some 30, .plain (.bin .eql), [.tmp 28, .lit (.int .i64 1)], none⟩, ⟨some 29, .plain .mv, [.tmp 30], none⟩] [30]) (.cond (.tmp 29) (.seq (.ops [⟨some 31, .plain (.fieldAddr 2), [.tmp 3], none⟩, ⟨some 32, .plain (.load false 1), [.tmp 31], none⟩, ⟨some 33, .plain (.fieldAddr 2), [.tmp 2], none⟩, ⟨some 34, .plain (.load false 1), [.tmp 33], none⟩, ⟨some 35, .plain (.bin .eql), [.tmp 32, .tmp 34], none⟩, ⟨some 36, .plain .mv, [.tmp 35], none⟩, ⟨some 37, .plain .mv, [.tmp 5], (some (36, true))⟩, ⟨some 38, .plain (.fieldAddr 1), [.tmp 2], (some (36, true))⟩, ⟨some 39, .plain (.load false 1), [.tmp 38], (some (36, true))⟩, ⟨some 40, .plain (.bin .shl), [.lit (.int .i64 1), .tmp 39], (some (36, true))⟩, ⟨some 41, .plain (.bin .lss), [.tmp 37, .tmp 40], (some (36, true))⟩, ⟨some 42, .plain .pick, [.tmp 36, .tmp 41, .lit (.bool false)], none⟩, ⟨some 4, .plain .mv, [.tmp 42], none⟩] [31, 32, 33, 34, 35, 36, 37, 38, 39, 40, 41, 42]) .ret) (.seq (.ops [⟨some 44, .plain (.bin .eql), [.tmp 28, .lit (.int .i64 2)], none⟩, ⟨some 43, .plain .mv, [.tmp 44], none⟩] [44]) (.cond (.tmp 43) (.seq (.draw (.step ⟨some 45, .plain (.fieldAddr 2), [.tmp 3], none⟩ (.step ⟨some 46, .plain (.load false 1), [.tmp 45], none⟩ (.step ⟨some 47, .plain (.fieldAddr 2), [.tmp 2], none⟩ (.step ⟨some 48, .plain (.load false 1), [.tmp 47], none⟩ (.step ⟨some 49, .plain (.bin .eql), [.tmp 46, .tmp 48], none⟩ (.step ⟨some 50, .plain .mv, [.tmp 49], none⟩ (.step ⟨some 51, .plain .mv, [.tmp 5], (some (50, true))⟩ (.step ⟨some 52, .call 52, [.tmp 51], (some (50, true))⟩ (.step ⟨some 53, .plain (.len 1), [.tmp 52], (some (50, true))⟩ (.step ⟨some 54, .plain (.fieldAddr 1), [.tmp 2], (some (50, true))⟩ (.step ⟨some 55, .plain (.load false 1), [.tmp 54], (some (50, true))⟩ (.step ⟨some 56, .plain (.bin .leq), [.tmp 53, .tmp 55], (some (50, true))⟩ (.step ⟨some 57, .plain .pick, [.tmp 50, .tmp 56, .lit (.bool false)], none⟩ (.step ⟨some 4, .plain .mv, [.tmp 57], none⟩ .done)))))))))))))) [45, 46, 47, 48, 49, 50, 51, 52, 53, 54, 55, 56, 57]) .ret) (.seq (.ops [⟨some 59, .plain (.bin .eql), [.tmp 28, .lit (.int .i64 3)], none⟩, ⟨some 58, .plain .mv, [.tmp 59], none⟩] [59]) (.cond (.tmp 58) (.seq (.draw (.step ⟨some 60, .plain .mv, [.tmp 5], none⟩ (.step ⟨some 61, .call 52, [.tmp 60], none⟩ (.step ⟨some 62, .plain (.len 1), [.tmp 61], none⟩ (.step ⟨some 63, .plain (.fieldAddr 1), [.tmp 2], none⟩ (.step ⟨some 64, .plain (.load false 1), [.tmp 63], none⟩ (.step ⟨some 65, .plain (.bin .leq), [.tmp 62, .tmp 64], none⟩ (.step ⟨some 4, .plain .mv, [.tmp 65], none⟩ .done))))))) [60, 61, 62, 63, 64, 65]) .ret) (.seq (.seq (.ops [⟨some 67, .plain (.bin .eql), [.tmp 28, .lit (.int .i64 4)], none⟩, ⟨some 66, .plain .mv, [.tmp 67], none⟩] [67]) (.cond (.tmp 66) .skip (.ops [⟨some 68, .plain (.bin .eql), [.tmp 28, .lit (.int .i64 5)], none⟩, ⟨some 66, .plain .mv, [.tmp 68], none⟩] [68]))) (.cond (.tmp 66) (.seq (.ops [⟨some 69, .plain (.fieldAddr 3), [.tmp 3], none⟩, ⟨some 70, .plain (.load false 1), [.tmp 69], none⟩, ⟨some 71, .plain (.len 0), [.tmp 70], none⟩, ⟨some 72, .plain (.fieldAddr 3), [.tmp 2], none⟩, ⟨some 73, .plain (.load false 1), [.tmp 72], none⟩, ⟨some 74, .plain (.bin .eql), [.tmp 71, .tmp 73], none⟩, ⟨some 75, .plain .mv, [.tmp 74], none⟩, ⟨some 76, .plain (.fieldAddr 4), [.tmp 2], (some (75, false))⟩, ⟨some 77, .plain (.load false 1), [.tmp 76], (some (75, false))⟩, ⟨some 78, .plain .mv, [.tmp 77], (some (75, false))⟩, ⟨some 79, .plain (.fieldAddr 3), [.tmp 3], (some (78, true))⟩, ⟨some 80, .plain (.load false 1), [.tmp 79], (some (78, true))⟩, ⟨some 81, .plain (.len 0), [.tmp 80], (some (78, true))⟩, ⟨some 82, .plain (.fieldAddr 3), [.tmp 2], (some (78, true))⟩, ⟨some 83, .plain (.load false 1), [.tmp 82], (some (78, true))⟩, ⟨some 84, .plain (.bin .lss), [.tmp 81, .tmp 83], (some (78, true))⟩, ⟨some 85, .plain .pick, [.tmp 78, .tmp 84, .lit (.bool false)], (some (75, false))⟩, ⟨some 86, .plain .pick, [.tmp 75, .lit (.bool true), .tmp 85], none⟩, ⟨some 4, .plain .mv, [.tmp 86], none⟩] [69, 70, 71, 72, 73, 74, 75, 76, 77, 78, 79, 80, 81, 82, 83, 84, 85, 86]) .ret) .skip)))))))))) (.seq (.ops [⟨some 4, .plain .mv, [.lit (.bool true)], none⟩] []) .ret)))))
def cr33 : List Res := [(4, none)]
theorem ok33 : FOk Bk.pg.toProgram Bk.imp 33 c33 cr33 Tryz.f33.ntmps := ⟨Tryz.f33, _, Tryz.func33, rfl, by kernel_rfl, by kernel_rfl, by kernel_rfl, rfl⟩
def c138 : SC :=
 (.seq (.ops [⟨some 1, .plain (.box 6), [.tmp 0], none⟩, ⟨some 2, .plain (.alloc [(.int .i64 0), (.int .i64 0), (.int .i64 0), (.str ⟨#[]⟩)]), [], none⟩, ⟨some 3, .plain .mv, [.lit (.int .i64 0)], none⟩] []) (.seq (.ops [⟨some 5, .plain (.fieldAddr 0), [.tmp 1], none⟩, ⟨some 6, .plain (.load false 1), [.tmp 5], none⟩, ⟨some 7, .plain (.build [(.int .i64 0), (.int .i64 0), (.int .i64 0), (.str ⟨#[]⟩)] [(0, 1)]), [.tmp 6], none⟩, ⟨some 4, .plain (.alloc [(.int .i64 0), (.int .i64 0), (.int .i64 0), (.str ⟨#[]⟩)]), [], none⟩, ⟨none, .plain (.store 4), [.tmp 4, .tmp 7], none⟩] [5, 6, 7]) (.seq (.block 0 (.seq (.ops [⟨some 9, .plain (.load true 6), [.tmp 1], none⟩, ⟨some 10, .call 31, [.tmp 9], none⟩, ⟨some 11, .plain (.un .not), [.tmp 10], none⟩, ⟨some 8, .plain .mv, [.tmp 11], none⟩] [9, 10, 11]) (.cond (.tmp 8) (.seq (.ops [⟨some 12, .plain (.build [(.int .i64 0), (.int .i64 0), (.int .i64 0), (.str ⟨#[]⟩)] []), [], none⟩, ⟨none, .plain (.store 4), [.tmp 2, .tmp 12], none⟩, ⟨some 3, .plain .mv, [.lit (.int .i64 13)], none⟩] [12]) .ret) (.seq (.ops [⟨some 14, .plain (.fieldAddr 0), [.tmp 1], none⟩, ⟨some 15, .plain (.load false 1), [.tmp 14], none⟩, ⟨some 16, .call 210, [.tmp 15], none⟩, ⟨some 17, .plain (.bin .gtr), [.tmp 16, .lit (.int .i64 0)], none⟩, ⟨some 13, .plain .mv, [.tmp 17], none⟩] [14, 15, 16, 17]) (.cond (.tmp 13) (.ops [⟨some 18, .plain (.fieldAddr 2), [.tmp 1], none⟩, ⟨some 19, .plain (.load false 1), [.tmp 18], none⟩, ⟨some 20, .plain (.fieldAddr 2), [.tmp 4], none⟩, ⟨none, .plain (.store 1), [.tmp 20, .tmp 19], none⟩] [18, 19, 20]) (.seq (.ops [⟨some 22, .plain (.fieldAddr 0), [.tmp 1], none⟩, ⟨some 23, .plain (.load false 1), [.tmp 22], none⟩, ⟨some 24, .plain (.bin .eql), [.tmp 23, .lit (.int .i64 3)], none⟩, ⟨some 21, .plain .mv, [.tmp 24], none⟩] [22, 23, 24]) (.cond (.tmp 21) .skip (.seq (.ops [⟨some 26, .plain (.fieldAddr 0), [.tmp 1], none⟩, ⟨some 27, .plain (.load false 1), [.tmp 26], none⟩, ⟨some 28, .plain (.bin .eql), [.tmp 27, .lit (.int .i64 4)], none⟩, ⟨some 29, .plain .mv, [.tmp 28], none⟩, ⟨some 30, .plain (.fieldAddr 4), [.tmp 1], (some (29, true))⟩, ⟨some 31, .plain (.load false 1), [.tmp 30], (some (29, true))⟩, ⟨some 32, .plain (.un .not), [.tmp 31], (some (29, true))⟩, ⟨some 33, .plain .pick, [.tmp 29, .tmp 32, .lit (.bool false)], none⟩, ⟨some 25, .plain .mv, [.tmp 33], none⟩] [26, 27, 28, 29, 30, 31, 32, 33]) (.cond (.tmp 25) (.ops [⟨some 34, .plain (.fieldAddr 3), [.tmp 1], none⟩, ⟨some 35, .plain (.load false 1), [.tmp 34], none⟩, ⟨some 36, .call 136, [.lit (.str ⟨#[32]⟩), .tmp 35], none⟩, ⟨some 37, .plain (.fieldAddr 3), [.tmp 4], none⟩, ⟨none, .plain (.store 1), [.tmp 37, .tmp 36], none⟩] [34, 35, 36, 37]) (.seq (.ops [⟨some 39, .plain (.fieldAddr 0), [.tmp 1], none⟩, ⟨some 40, .plain (.load false 1), [.tmp 39], none⟩, ⟨some 41, .plain (.bin .eql), [.tmp 40, .lit (.int .i64 5)], none⟩, ⟨some 42, .plain .mv, [.tmp 41], none⟩, ⟨some 43, .plain (.fieldAddr 4), [.tmp 1], (some (42, true))⟩, ⟨some 44, .plain (.load false 1), [.tmp 43], (some (42, true))⟩, ⟨some 45, .plain (.un .not), [.tmp 44], (some (42, true))⟩, ⟨some 46, .plain .pick, [.tmp 42, .tmp 45, .lit (.bool false)], none⟩, ⟨some 38, .plain .mv, [.tmp 46], none⟩] [39, 40, 41, 42, 43, 44, 45, 46]) (.cond (.tmp 38) (.ops [⟨some 47, .plain (.fieldAddr 3), [.tmp 1], none⟩, ⟨some 48, .plain (.load false 1), [.tmp 47], none⟩, ⟨some 49, .call 136, [.lit (.str ⟨#[48]⟩), .tmp 48], none⟩, ⟨some 50, .plain (.fieldAddr 3), [.tmp 4], none⟩, ⟨none, .plain (.store 1), [.tmp 50, .tmp 49], none⟩] [47, 48, 49, 50]) (.seq (.ops [⟨some 52, .plain (.fieldAddr 0), [.tmp 1], none⟩, ⟨some 53, .plain (.load false 1), [.tmp 52], none⟩, ⟨some 54, .plain (.bin .neq), [.tmp 53, .lit (.int .i64 4)], none⟩, ⟨some 55, .plain .mv, [.tmp 54], none⟩, ⟨some 56, .plain (.fieldAddr 0), [.tmp 1], (some (55, true))⟩, ⟨some 57, .plain (.load false 1), [.tmp 56], (some (55, true))⟩, ⟨some 58, .plain (.bin .neq), [.tmp 57, .lit (.int .i64 5)], (some (55, true))⟩, ⟨some 59, .plain .pick, [.tmp 55, .tmp 58, .lit (.bool false)], none⟩, ⟨some 51, .plain .mv, [.tmp 59], none⟩] [52, 53, 54, 55, 56, 57, 58, 59]) (.cond (.tmp 51) (.seq (.ops [⟨some 60, .plain (.build [(.int .i64 0), (.int .i64 0), (.int .i64 0), (.str ⟨#[]⟩)] []), [], none⟩, ⟨none, .plain (.store 4), [.tmp 2, .tmp 60], none⟩, ⟨some 3, .plain .mv, [.lit (.int .i64 10)], none⟩] [60]) .ret) .skip))))))))))))) (.seq (.ops [⟨some 61, .plain (.load true 4), [.tmp 4], none⟩, ⟨none, .plain (.store 4), [.tmp 2, .tmp 61], none⟩, ⟨some 3, .plain .mv, [.lit (.int .i64 0)], none⟩] [61]) .ret))))
def cr138 : List Res := [(2, some (true, 4)), (3, none)]
theorem ok138 : FOk Bk.pg.toProgram Bk.imp 138 c138 cr138 Tryz.f138.ntmps := ⟨Tryz.f138, _, Tryz.func138, rfl, by kernel_rfl, by kernel_rfl, by kernel_rfl, rfl⟩
def c160 : SC :=
 (.seq (.ops [⟨some 4, .plain .mv, [.lit (.int .i64 0)], none⟩] []) (.seq (.seq (.ops [⟨some 9, .plain .mv, [.tmp 1], none⟩, ⟨some 10, .plain (.len 1), [.tmp 9], none⟩, ⟨some 11, .plain .mv, [.lit (.int .i64 0)], none⟩] []) (.block 0 (.loop (.seq (.ops [⟨some 12, .plain (.bin .lss), [.tmp 11, .tmp 10], none⟩] []) (.seq (.cond (.tmp 12) .skip (.exit 0)) (.seq (.block 1 (.seq (.ops [⟨some 13, .plain (.indexAddr 4), [.tmp 9, .tmp 11], none⟩, ⟨some 14, .plain (.load true 4), [.tmp 13], none⟩, ⟨some 6, .plain (.alloc [(.int .i64 0), (.int .i64 0), (.int .i64 0), (.str ⟨#[]⟩)]), [], none⟩, ⟨none, .plain (.store 4), [.tmp 6, .tmp 14], none⟩] [13, 14]) (.seq (.ops [⟨some 15, .plain (.load true 4), [.tmp 6], none⟩, ⟨some 16, .call 51, [.tmp 15], none⟩, ⟨some 17, .plain (.un .not), [.tmp 16], none⟩] [15, 16]) (.cond (.tmp 17) (.seq (.ops [⟨some 4, .plain .mv, [.lit (.int .i64 1)], none⟩] []) .ret) .skip)))) (.ops [⟨some 18, .plain (.bin .add), [.tmp 11, .lit (.int .i64 1)], none⟩, ⟨some 11, .plain .mv, [.tmp 18], none⟩] [18]))))))) (.seq (.seq (.ops [⟨some 19, .plain .mv, [.tmp 0], none⟩, ⟨some 20, .plain (.eqNil true true), [.tmp 19, .lit (.const (.pointer none))], none⟩, ⟨some 21, .plain .mv, [.tmp 20], none⟩, ⟨some 22, .plain .mv, [.tmp 0], (some (21, true))⟩, ⟨some 23, .plain .nilCheck, [.tmp 22], (some (21, true))⟩, ⟨some 24, .plain (.load true 6), [.tmp 23], (some (21, true))⟩, ⟨some 25, .call 31, [.tmp 24], (some (21, true))⟩, ⟨some 26, .plain (.un .not), [.tmp 25], (some (21, true))⟩, ⟨some 27, .plain .pick, [.tmp 21, .tmp 26, .lit (.bool false)], none⟩] [19, 20, 21, 22, 23, 24, 25, 26]) (.cond (.tmp 27) (.seq (.ops [⟨some 4, .plain .mv, [.lit (.int .i64 13)], none⟩] []) .ret) .skip)) (.seq (.seq (.ops [⟨some 28, .plain .mv, [.tmp 1], none⟩, ⟨some 29, .plain (.len 1), [.tmp 28], none⟩, ⟨some 30, .plain .mv, [.lit (.int .i64 0)], none⟩] []) (.block 2 (.loop (.seq (.ops [⟨some 31, .plain (.bin .lss), [.tmp 30, .tmp 29], none⟩] []) (.seq (.cond (.tmp 31) .skip (.exit 2)) (.seq (.block 3 (.seq (.ops [⟨some 32, .plain (.indexAddr 4), [.tmp 28, .tmp 30], none⟩, ⟨some 33, .plain (.load true 4), [.tmp 32], none⟩, ⟨some 8, .plain (.alloc [(.int .i64 0), (.int .i64 0), (.int .i64 0), (.str ⟨#[]⟩)]), [], none⟩, ⟨none, .plain (.store 4), [.tmp 8, .tmp 33], none⟩] [32, 33]) (.seq (.ops [⟨some 34, .plain (.fieldAddr 0), [.tmp 8], none⟩, ⟨some 35, .plain (.load false 1), [.tmp 34], none⟩, ⟨some 36, .call 242, [.tmp 35], none⟩, ⟨some 37, .plain (.un .not), [.tmp 36], none⟩] [34, 35, 36]) (.cond (.tmp 37) (.seq (.ops [⟨some 4, .plain .mv, [.lit (.int .i64 10)], none⟩] []) .ret) .skip)))) (.ops [⟨some 38, .plain (.bin .add), [.tmp 30, .lit (.int .i64 1)], none⟩, ⟨some 30, .plain .mv, [.tmp 38], none⟩] [38]))))))) (.seq (.seq (.ops [⟨some 39, .plain .mv, [.tmp 0], none⟩, ⟨some 40, .plain (.eqNil true true), [.tmp 39, .lit (.const (.pointer none))], none⟩, ⟨some 41, .plain .mv, [.tmp 40], none⟩, ⟨some 42, .plain .mv, [.tmp 0], (some (41, true))⟩, ⟨some 43, .plain .nilCheck, [.tmp 42], (some (41, true))⟩, ⟨some 44, .plain (.fieldAddr 0), [.tmp 43], (some (41, true))⟩, ⟨some 45, .plain (.load false 1), [.tmp 44], (some (41, true))⟩, ⟨some 46, .call 242, [.tmp 45], (some (41, true))⟩, ⟨some 47, .plain (.un .not), [.tmp 46], (some (41, true))⟩, ⟨some 48, .plain .pick, [.tmp 41, .tmp 47, .lit (.bool false)], none⟩] [39, 40, 41, 42, 43, 44, 45, 46, 47]) (.cond (.tmp 48) (.seq (.ops [⟨some 4, .plain .mv, [.lit (.int .i64 10)], none⟩] []) .ret) .skip)) (.seq (.ops [⟨some 4, .plain .mv, [.lit (.int .i64 0)], none⟩] []) .ret))))))
def cr160 : List Res := [(4, none)]
theorem ok160 : FOk Bk.pg.toProgram Bk.imp 160 c160 cr160 Tryz.f160.ntmps := ⟨Tryz.f160, _, Tryz.func160, rfl, by kernel_rfl, by kernel_rfl, by kernel_rfl, rfl⟩
def c158 : SC :=
 (.seq (.ops [⟨some 2, .plain (.box 4), [.tmp 0], none⟩, ⟨some 3, .plain (.box 6), [.tmp 1], none⟩, ⟨some 4, .plain (.alloc [(.int .i64 0), (.int .i64 0), (.int .i64 0), (.str ⟨#[]⟩)]), [], none⟩, ⟨some 5, .plain .mv, [.lit (.int .i64 0)], none⟩, ⟨some 6, .plain .mv, [.lit (.int .i64 0)], none⟩] []) (.seq (.seq (.ops [⟨some 10, .plain (.load true 4), [.tmp 2], none⟩, ⟨some 11, .plain (.buildRow 24 4 1 [(.int .i64 0), (.int .i64 0), (.int .i64 0), (.str ⟨#[]⟩)] [0]), [.tmp 10], none⟩, ⟨some 12, .call 160, [.tmp 3, .tmp 11], none⟩, ⟨some 7, .plain .mv, [.tmp 12], none⟩] [10, 11, 12]) (.seq (.ops [⟨some 13, .plain .mv, [.tmp 7], none⟩, ⟨some 14, .plain (.bin .neq), [.tmp 13, .lit (.int .i64 0)], none⟩] [13]) (.cond (.tmp 14) (.seq (.ops [⟨some 15, .plain (.build [(.int .i64 0), (.int .i64 0), (.int .i64 0), (.str ⟨#[]⟩)] []), [], none⟩, ⟨some 16, .plain .mv, [.tmp 7], none⟩, ⟨none, .plain (.store 4), [.tmp 4, .tmp 15], none⟩, ⟨some 5, .plain .mv, [.lit (.int .i64 0)], none⟩, ⟨some 6, .plain .mv, [.tmp 16], none⟩] [15, 16]) .ret) .skip))) (.seq (.draw (.step ⟨some 18, .plain (.load true 4), [.tmp 2], none⟩ (.step ⟨some 19, .call 165, [.tmp 18], none⟩ (.step ⟨some 20, .plain (.load true 6), [.tmp 3], none⟩ (.step ⟨some 21, .call 238, [.tmp 19, .tmp 20, .lit (.int .i64 4)], none⟩ (.step ⟨some 17, .plain .mv, [.tmp 21], none⟩ (.step ⟨some 22, .plain (.extract 0), [.tmp 17], none⟩ (.step ⟨some 23, .plain (.extract 1), [.tmp 17], none⟩ (.step ⟨some 8, .plain (.alloc [(.int .i64 0), (.int .i64 0), (.int .i64 0), (.str ⟨#[]⟩)]), [], none⟩ (.step ⟨none, .plain (.store 4), [.tmp 8, .tmp 22], none⟩ (.step ⟨some 9, .plain .mv, [.tmp 23], none⟩ .done)))))))))) [18, 19, 20, 21, 17, 22, 23]) (.seq (.ops [⟨some 24, .plain (.load true 4), [.tmp 8], none⟩, ⟨some 25, .plain .mv, [.tmp 9], none⟩, ⟨none, .plain (.store 4), [.tmp 4, .tmp 24], none⟩, ⟨some 5, .plain .mv, [.tmp 25], none⟩, ⟨some 6, .plain .mv, [.lit (.int .i64 0)], none⟩] [24, 25]) .ret))))
def cr158 : List Res := [(4, some (true, 4)), (5, none), (6, none)]
theorem ok158 : FOk Bk.pg.toProgram Bk.imp 158 c158 cr158 Tryz.f158.ntmps := ⟨Tryz.f158, _, Tryz.func158, rfl, by kernel_rfl, by kernel_rfl, by kernel_rfl, rfl⟩
def c164 : SC :=
 let s0 : DT := (.step ⟨none, .plain (.store 3), [.tmp 10, .tmp 37], none⟩ (.step ⟨none, .plain (.store 3), [.tmp 11, .tmp 38], none⟩ .done))
 (.seq (.ops [⟨some 3, .plain (.box 4), [.tmp 0], none⟩, ⟨some 4, .plain (.box 4), [.tmp 1], none⟩, ⟨some 5, .plain (.box 6), [.tmp 2], none⟩, ⟨some 6, .plain (.alloc [(.int .i64 0), (.int .i64 0), (.int .i64 0), (.str ⟨#[]⟩)]), [], none⟩, ⟨some 7, .plain .mv, [.lit (.int .i64 0)], none⟩, ⟨some 8, .plain .mv, [.lit (.int .i64 0)], none⟩] []) (.seq (.seq (.ops [⟨some 14, .plain (.load true 4), [.tmp 3], none⟩, ⟨some 15, .plain (.load true 4), [.tmp 4], none⟩, ⟨some 16, .plain (.buildRow 24 4 2 [(.int .i64 0), (.int .i64 0), (.int .i64 0), (.str ⟨#[]⟩)] [0, 1]), [.tmp 14, .tmp 15], none⟩, ⟨some 17, .call 160, [.tmp 5, .tmp 16], none⟩, ⟨some 9, .plain .mv, [.tmp 17], none⟩] [14, 15, 16, 17]) (.seq (.ops [⟨some 18, .plain .mv, [.tmp 9], none⟩, ⟨some 19, .plain (.bin .neq), [.tmp 18, .lit (.int .i64 0)], none⟩] [18]) (.cond (.tmp 19) (.seq (.ops [⟨some 20, .plain (.build [(.int .i64 0), (.int .i64 0), (.int .i64 0), (.str ⟨#[]⟩)] []), [], none⟩, ⟨some 21, .plain .mv, [.tmp 9], none⟩, ⟨none, .plain (.store 4), [.tmp 6, .tmp 20], none⟩, ⟨some 7, .plain .mv, [.lit (.int .i64 0)], none⟩, ⟨some 8, .plain .mv, [.tmp 21], none⟩] [20, 21]) .ret) .skip))) (.seq (.seq (.ops [⟨some 22, .plain (.fieldAddr 1), [.tmp 4], none⟩, ⟨some 23, .plain (.load false 1), [.tmp 22], none⟩, ⟨some 24, .plain (.bin .eql), [.tmp 23, .lit (.int .i64 0)], none⟩] [22, 23]) (.cond (.tmp 24) (.seq (.ops [⟨some 26, .plain (.load true 6), [.tmp 5], none⟩, ⟨some 27, .call 138, [.tmp 26], none⟩, ⟨some 25, .plain .mv, [.tmp 27], none⟩, ⟨some 28, .plain (.extract 0), [.tmp 25], none⟩, ⟨some 29, .plain (.extract 1), [.tmp 25], none⟩, ⟨none, .plain (.store 4), [.tmp 6, .tmp 28], none⟩] [26, 27, 25, 28, 29]) (.seq (.ops [⟨some 30, .plain (.load true 4), [.tmp 6], none⟩, ⟨none, .plain (.store 4), [.tmp 6, .tmp 30], none⟩, ⟨some 7, .plain .mv, [.lit (.int .i64 9)], none⟩, ⟨some 8, .plain .mv, [.lit (.int .i64 0)], none⟩] [30]) .ret)) .skip)) (.seq (.draw (.step ⟨some 32, .plain (.load true 4), [.tmp 3], none⟩ (.step ⟨some 33, .call 165, [.tmp 32], none⟩ (.step ⟨some 34, .plain (.load true 4), [.tmp 4], none⟩ (.step ⟨some 35, .call 165, [.tmp 34], none⟩ (.step ⟨some 36, .call 251, [.tmp 33, .tmp 35], none⟩ (.step ⟨some 31, .plain .mv, [.tmp 36], none⟩ (.step ⟨some 37, .plain (.extract 0), [.tmp 31], none⟩ (.step ⟨some 38, .plain (.extract 1), [.tmp 31], none⟩ (.or (.step ⟨some 10, .plain (.alloc [.nilS, (.bool false), (.int .i64 0)]), [], none⟩ (.step ⟨some 11, .plain (.alloc [.nilS, (.bool false), (.int .i64 0)]), [], none⟩ s0)) (.step ⟨some 11, .plain (.alloc [.nilS, (.bool false), (.int .i64 0)]), [], none⟩ (.step ⟨some 10, .plain (.alloc [.nilS, (.bool false), (.int .i64 0)]), [], none⟩ s0))))))))))) [32, 33, 34, 35, 36, 31, 37, 38]) (.seq (.draw (.step ⟨some 39, .plain (.fieldAddr 0), [.tmp 10], none⟩ (.step ⟨some 40, .plain (.load false 1), [.tmp 39], none⟩ (.step ⟨some 41, .plain (.fieldAddr 0), [.tmp 11], none⟩ (.step ⟨some 42, .plain (.load false 1), [.tmp 41], none⟩ (.step ⟨some 43, .call 252, [.tmp 40, .tmp 42], none⟩ (.step ⟨some 44, .plain (.build [.nilS, (.bool false), (.int .i64 0)] [(0, 1)]), [.tmp 43], none⟩ (.step ⟨some 45, .plain (.fieldAddr 0), [.tmp 11], none⟩ (.step ⟨some 46, .plain (.load false 1), [.tmp 45], none⟩ (.step ⟨some 47, .plain (.build [.nilS, (.bool false), (.int .i64 0)] [(0, 1)]), [.tmp 46], none⟩ (.step ⟨some 48, .call 169, [.tmp 44, .tmp 47], none⟩ (.step ⟨some 12, .plain (.alloc [.nilS, (.bool false), (.int .i64 0)]), [], none⟩ (.step ⟨none, .plain (.store 3), [.tmp 12, .tmp 48], none⟩ .done)))))))))))) [39, 40, 41, 42, 43, 44, 45, 46, 47, 48]) (.seq (.draw (.step ⟨some 49, .plain (.fieldAddr 0), [.tmp 10], none⟩ (.step ⟨some 50, .plain (.load false 1), [.tmp 49], none⟩ (.step ⟨some 51, .plain (.fieldAddr 0), [.tmp 12], none⟩ (.step ⟨some 52, .plain (.load false 1), [.tmp 51], none⟩ (.step ⟨some 53, .call 253, [.tmp 50, .tmp 52], none⟩ (.step ⟨some 54, .plain (.fieldAddr 2), [.tmp 10], none⟩ (.step ⟨some 55, .plain (.load false 1), [.tmp 54], none⟩ (.step ⟨some 56, .plain (.build [.nilS, (.bool false), (.int .i64 0)] [(0, 1), (2, 1)]), [.tmp 53, .tmp 55], none⟩ (.step ⟨some 13, .plain (.alloc [.nilS, (.bool false), (.int .i64 0)]), [], none⟩ (.step ⟨none, .plain (.store 3), [.tmp 13, .tmp 56], none⟩ .done)))))))))) [49, 50, 51, 52, 53, 54, 55, 56]) (.seq (.seq (.ops [⟨some 57, .plain (.fieldAddr 0), [.tmp 13], none⟩, ⟨some 58, .plain (.load false 1), [.tmp 57], none⟩, ⟨some 59, .plain (.len 1), [.tmp 58], none⟩, ⟨some 60, .plain (.bin .gtr), [.tmp 59, .lit (.int .i64 0)], none⟩, ⟨some 61, .plain .mv, [.tmp 60], none⟩, ⟨some 62, .plain (.fieldAddr 1), [.tmp 10], (some (61, true))⟩, ⟨some 63, .plain (.load false 1), [.tmp 62], (some (61, true))⟩, ⟨some 64, .plain (.fieldAddr 1), [.tmp 11], (some (61, true))⟩, ⟨some 65, .plain (.load false 1), [.tmp 64], (some (61, true))⟩, ⟨some 66, .plain (.eqBool true), [.tmp 63, .tmp 65], (some (61, true))⟩, ⟨some 67, .plain .pick, [.tmp 61, .tmp 66, .lit (.bool false)], none⟩] [57, 58, 59, 60, 61, 62, 63, 64, 65, 66]) (.cond (.tmp 67) (.ops [⟨some 68, .plain (.fieldAddr 0), [.tmp 11], none⟩, ⟨some 69, .plain (.load false 1), [.tmp 68], none⟩, ⟨some 70, .plain (.fieldAddr 0), [.tmp 13], none⟩, ⟨some 71, .plain (.load false 1), [.tmp 70], none⟩, ⟨some 72, .call 253, [.tmp 69, .tmp 71], none⟩, ⟨some 73, .plain (.fieldAddr 0), [.tmp 13], none⟩, ⟨none, .plain (.store 1), [.tmp 73, .tmp 72], none⟩] [68, 69, 70, 71, 72, 73]) .skip)) (.seq (.ops [⟨some 74, .plain (.fieldAddr 1), [.tmp 11], none⟩, ⟨some 75, .plain (.load false 1), [.tmp 74], none⟩, ⟨some 76, .plain (.fieldAddr 1), [.tmp 13], none⟩, ⟨none, .plain (.store 1), [.tmp 76, .tmp 75], none⟩] [74, 75, 76]) (.seq (.ops [⟨some 78, .plain (.load true 3), [.tmp 13], none⟩, ⟨some 79, .plain (.load true 6), [.tmp 5], none⟩, ⟨some 80, .call 238, [.tmp 78, .tmp 79, .lit (.int .i64 4)], none⟩, ⟨some 77, .plain .mv, [.tmp 80], none⟩, ⟨some 81, .plain (.extract 0), [.tmp 77], none⟩, ⟨some 82, .plain (.extract 1), [.tmp 77], none⟩, ⟨none, .plain (.store 4), [.tmp 6, .tmp 81], none⟩, ⟨some 7, .plain .mv, [.tmp 82], none⟩] [78, 79, 80, 77, 81, 82]) (.seq (.ops [⟨some 83, .plain (.load true 4), [.tmp 6], none⟩, ⟨some 84, .plain .mv, [.tmp 7], none⟩, ⟨none, .plain (.store 4), [.tmp 6, .tmp 83], none⟩, ⟨some 7, .plain .mv, [.tmp 84], none⟩, ⟨some 8, .plain .mv, [.lit (.int .i64 0)], none⟩] [83, 84]) .ret))))))))))
def cr164 : List Res := [(6, some (true, 4)), (7, none), (8, none)]
theorem ok164 : FOk Bk.pg.toProgram Bk.imp 164 c164 cr164 Tryz.f164.ntmps := ⟨Tryz.f164, _, Tryz.func164, rfl, by kernel_rfl, by kernel_rfl, by kernel_rfl, rfl⟩
def c210 : SC :=
 (.seq (.ops [⟨some 2, .plain .mv, [.lit (.int .i64 0)], none⟩] []) (.seq (.seq (.ops [⟨some 3, .plain .mv, [.tmp 0], none⟩] []) (.block 0 (.seq (.ops [⟨some 5, .plain (.bin .eql), [.tmp 3, .lit (.int .i64 1)], none⟩, ⟨some 4, .plain .mv, [.tmp 5], none⟩] [5]) (.cond (.tmp 4) (.seq (.ops [⟨some 2, .plain .mv, [.lit (.int .i64 2)], none⟩] []) .ret) (.seq (.ops [⟨some 7, .plain (.bin .eql), [.tmp 3, .lit (.int .i64 2)], none⟩, ⟨some 6, .plain .mv, [.tmp 7], none⟩] [7]) (.cond (.tmp 6) (.seq (.ops [⟨some 2, .plain .mv, [.lit (.int .i64 10)], none⟩] []) .ret) .skip)))))) (.seq (.ops [⟨some 2, .plain .mv, [.lit (.int .i64 0)], none⟩] []) .ret)))
def cr210 : List Res := [(2, none)]
theorem ok210 : FOk Bk.pg.toProgram Bk.imp 210 c210 cr210 Tryz.f210.ntmps := ⟨Tryz.f210, _, Tryz.func210, rfl, by kernel_rfl, by kernel_rfl, by kernel_rfl, rfl⟩
end Go.Pm

/- BkC8: contracts: types and values that are right. -/
namespace Go.Pm
open Go Go.Proofs
attribute [-simp] List.getElem?_map
theorem call49 (n lo hi : Int) : PCalls Bk.pg 49 [.int .i64 n, .int .i64 lo, .int .i64 hi] fun out => out = .ret (.bool (leI lo n && leI n hi)) := by
  refine ok49.pcalls (by simp) ?_
  simp [c49]
  refine br_guard_t rfl (fun h => ?_) (fun h => ?_)
  · simp [h, cr49]
  · simp [h, cr49]
def tyN (k p q : Int) : List AV := ty k p q 0 false ⟨#[]⟩
def vlN (k n q : Int) : List AV := vl k n q ⟨#[]⟩
theorem ok31T : FOk Bk.pg.toProgram Bk.impT 31 c31 cr31 Tryz.f31.ntmps := ⟨Tryz.f31, _, Tryz.func31, rfl, by kernel_rfl, by kernel_rfl, by kernel_rfl, rfl⟩
theorem call127 {most scale : Int} {m : Mem} : ACalls Bk.pg 127 [.int .i64 most, .int .i64 scale] m fun out m' => out = .ret (.fn 128 [.ptr m.store.length m.next 0, .ptr (m.store.length + 1) (m.next + 1) 0]) ∧ m' = ⟨m.store ++ [(m.next, .cells [.int .i64 most]), (m.next + 1, .cells [.int .i64 scale])], m.next + 2⟩ := by
  refine ok127.acalls (by simp) ?_
  simp [c127, cr127, postA_ret, Mem.new]
def rulesL : List (List AV) := [[.fn 132 []], [.fn 128 [.ptr 1 1 0, .ptr 2 2 0]], [.fn 128 [.ptr 3 3 0, .ptr 4 4 0]], [.fn 128 [.ptr 5 5 0, .ptr 6 6 0]], [.fn 129 []], [.fn 129 []], [.fn 131 []], [.fn 130 []], [.fn 130 []], [.fn 130 []]]
def cellI (g : Nat) (n : Int) : Nat × AObj := (g, .cells [.int .i64 n])
theorem call48 {o : Nat × AObj} : ACalls Bk.pg 48 [] ⟨[o], 1⟩ fun out m' => out = .ret (.row 7 7 1 0 10) ∧ m' = ⟨[o, cellI 1 31, cellI 2 31, cellI 3 15, cellI 4 31, cellI 5 15, cellI 6 0, (7, .row 64 1 rulesL)], 8⟩ := by
  refine ok48.acalls (by simp) ?_
  simp [c48]
  refine xcall_a call127 ?_
  simp
  refine xcall_a call127 ?_
  simp
  refine xcall_a call127 ?_
  simp [cr48, postA_ret, rulesL, cellI]
  rfl
theorem call128 {k p q most scale : Int} {m : Mem} {p1 g1 p2 g2 : Nat} (h1 : m.store[p1]? = some (g1, .cells [.int .i64 most])) (h2 : m.store[p2]? = some (g2, .cells [.int .i64 scale])) (hp : 1 ≤ p ∧ p ≤ most) (hq : 0 ≤ q ∧ q ≤ scale) :
    ACalls Bk.pg 128 [.agg (tyN k p q), .ptr p1 g1 0, .ptr p2 g2 0] m fun out m' => out = .ret (.bool true) ∧ m' = ⟨m.store, m.next + 1⟩ := by
  refine ACalls.forget (ok128.acalls (by simp) ?_)
  have l1 := (List.getElem?_eq_some_iff.1 h1).1
  have l2 := (List.getElem?_eq_some_iff.1 h2).1
  have k1 : ∀ x, (m.store ++ [x])[p1]? = some (g1, .cells [.int .i64 most]) := fun x => by rw [List.getElem?_append_left l1]; exact h1
  have k2 : ∀ x, (m.store ++ [x])[p2]? = some (g2, .cells [.int .i64 scale]) := fun x => by rw [List.getElem?_append_left l2]; exact h2
  have a1 : leI 1 p = true := leI_t.2 hp.1
  have a2 : leI p most = true := leI_t.2 hp.2
  have a3 : leI 0 q = true := leI_t.2 hq.1
  have a4 : leI q scale = true := leI_t.2 hq.2
  have z : eqI 0 0 = true := rfl
  have zs : eqS ⟨#[]⟩ ⟨#[]⟩ = true := eqS_r _
  simp [c128, tyN, ty, k1, k2]
  refine xcall_p (call49 p 1 most) (by simp) ?_
  simp [a1, a2, k1, k2]
  refine xcall_p (call49 q 0 scale) (by simp) ?_
  simp [a3, a4, z, zs, cr128, postA_ret]
  exact Mem.le_of rfl (by simp)
theorem call31 {k p q : Int} (hk : k = 1 ∧ 1 ≤ p ∧ p ≤ 31 ∨ k = 2 ∧ 1 ≤ p ∧ p ≤ 15) (hq : 0 ≤ q ∧ q ≤ 31) : PCalls Bk.pg 31 [.agg (tyN k p q)] fun out => out = .ret (.bool true) := by
  refine ok31T.pcalls (by simp) ?_
  simp [c31, tyN, ty]
  refine xcall_a call48 ?_
  have w9 : IntKind.i64.wrap 9 = 9 := rfl
  have z9 : leI 0 1 = true ∧ leI 1 9 = true ∧ ltI 1 10 = true ∧ leI 0 2 = true ∧ leI 2 9 = true ∧ ltI 2 10 = true := ⟨rfl, rfl, rfl, rfl, rfl, rfl⟩
  rcases hk with ⟨rfl, hp⟩ | ⟨rfl, hp⟩
  · have h1 := fun m h1 h2 => call128 (k := 1) (p := p) (q := q) (most := 31) (scale := 31) (m := m) (p1 := 1) (g1 := 1) (p2 := 2) (g2 := 2) h1 h2 hp hq
    simp [tyN, ty, w9, rulesL, cellI] at h1 ⊢
    refine xdcall_p rfl (call49 1 0 9) (by simp) ?_
    simp [z9]
    refine xdops_callw rfl rfl (h1 _ rfl rfl) ?_
    simp [cr31]
  · have h1 := fun m h1 h2 => call128 (k := 2) (p := p) (q := q) (most := 15) (scale := 31) (m := m) (p1 := 3) (g1 := 3) (p2 := 4) (g2 := 4) h1 h2 hp hq
    simp [tyN, ty, w9, rulesL, cellI] at h1 ⊢
    refine xdcall_p rfl (call49 2 0 9) (by simp) ?_
    simp [z9]
    refine xdops_callw rfl rfl (h1 _ rfl rfl) ?_
    simp [cr31]
def RightN (k n q : Int) : Prop := (k = 1 ∧ -2147483647 ≤ n ∧ n ≤ 2147483647 ∨ k = 2 ∧ -999999999999999 ≤ n ∧ n ≤ 999999999999999) ∧ 0 ≤ q ∧ q ≤ 31
def ValidN (k p q : Int) : Prop := (k = 1 ∧ 1 ≤ p ∧ p ≤ 31 ∨ k = 2 ∧ 1 ≤ p ∧ p ≤ 15) ∧ 0 ≤ q ∧ q ≤ 31
theorem call51 {k n q : Int} (h : RightN k n q) : PCalls Bk.pg 51 [.agg (vlN k n q)] fun out => out = .ret (.bool true) := by
  refine ok51.pcalls (by simp) ?_
  obtain ⟨hk, hq⟩ := h
  have a1 : leI 0 q = true := leI_t.2 hq.1
  have a2 : leI q 31 = true := leI_t.2 hq.2
  have zs : eqS ⟨#[]⟩ ⟨#[]⟩ = true := eqS_r _
  rcases hk with ⟨rfl, h1, h2⟩ | ⟨rfl, h1, h2⟩
  · have a3 : leI (-2147483647) n = true := leI_t.2 h1
    have a4 : leI n 2147483647 = true := leI_t.2 h2
    have z1 : eqI 1 1 = true := rfl
    simp [c51, vlN, vl, z1, zs]
    refine xcall_p (call49 q 0 31) (by simp) ?_
    simp [a1, a2]
    refine xcall_p (call49 n (-2147483647) 2147483647) (by simp) ?_
    simp [a3, a4, cr51]
  · have a3 : leI (-999999999999999) n = true := leI_t.2 h1
    have a4 : leI n 999999999999999 = true := leI_t.2 h2
    have z1 : eqI 2 1 = false := rfl
    have z2 : eqI 2 2 = true := rfl
    simp [c51, vlN, vl, z1, z2, zs]
    refine xcall_p (call49 q 0 31) (by simp) ?_
    simp [a1, a2]
    refine xcall_p (call49 n (-999999999999999) 999999999999999) (by simp) ?_
    simp [a3, a4, cr51]
def HasN (k p q n : Int) : Prop := ValidN k p q ∧ RightN k n q ∧ (k = 1 → n.natAbs < 2 ^ p.toNat) ∧ (k = 2 → n.natAbs < 10 ^ p.toNat)
theorem call33 {k p q n : Int} (h : HasN k p q n) : PCalls Bk.pg 33 [.agg (tyN k p q), .agg (vlN k n q)] fun out => out = .ret (.bool true) := by
  refine ok33.pcalls (by simp) ?_
  obtain ⟨hv, hr, h1, h2⟩ := h
  have c1 := call31 hv.1 hv.2
  have c2 := call51 hr
  obtain ⟨hk, hq⟩ := hr
  have hn : -999999999999999 ≤ n ∧ n ≤ 999999999999999 := by omega
  have wn : IntKind.i64.wrap (-n) = -n := wrap64 (by omega) (by omega)
  have hmax : (if n < -n then -n else n) = (n.natAbs : Int) := by split <;> omega
  have zk : ∀ k : Int, eqI k k = true := fun k => eqI_t.2 rfl
  have zq : (!eqI k k) = false := by rw [zk]; rfl
  simp only [tyN, ty, vlN, vl] at c1 c2
  simp [c33, tyN, ty, vlN, vl]
  refine xcall_p c1 (by simp) ?_
  simp
  refine xcall_p c2 (by simp) ?_
  obtain ⟨N, hN⟩ : ∃ N, N = n.natAbs := ⟨_, rfl⟩
  rw [← hN] at h1 h2 hmax
  simp [zk, wn, hmax]
  have hp : ∃ P : Nat, p = P ∧ 1 ≤ P ∧ P ≤ 31 := ⟨p.toNat, by have := hv.1; omega, by have := hv.1; omega, by have := hv.1; omega⟩
  obtain ⟨P, rfl, hP1, hP2⟩ := hp
  rw [Int.toNat_natCast] at h1 h2
  rcases hk with ⟨rfl, h3, h4⟩ | ⟨rfl, h3, h4⟩
  · have z1 : eqI 1 1 = true := rfl
    have hp2 : 2 ^ P ≤ 2 ^ 31 := Nat.pow_le_pow_right (by decide) hP2
    have hb : min P IntKind.i64.bits = P := Nat.min_eq_left (by simp [IntKind.bits]; omega)
    have hpn : ¬ (P : Int) < 0 := by omega
    have h1 := h1 rfl
    obtain ⟨B, hB⟩ : ∃ B : Nat, B = 2 ^ P := ⟨_, rfl⟩
    have w4 : IntKind.i64.wrap ((2 : Int) ^ P) = (B : Int) := by
      have : ((2 : Int) ^ P) = ((2 ^ P : Nat) : Int) := by simp
      rw [this, ← hB]
      exact wrap64 (by omega) (by omega)
    have hlt : ltI (N : Int) B = true := ltI_t.2 (by omega)
    simp [z1, zk, hpn]
    rw [hb, w4]
    simp [cr33, hlt]
  · have z1 : eqI 2 1 = false := rfl
    have z2 : eqI 2 2 = true := rfl
    have h2 := h2 rfl
    have hl : leI ((digs N).length : Int) P = true := leI_t.2 (by have := digs_len _ _ h2; omega)
    simp [z1, z2, zk]
    refine xdcall_p rfl (call52 N (by omega)) (by simp) ?_
    simp [cr33, hl]
end Go.Pm
