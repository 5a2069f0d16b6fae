/- BkT1: the table of built-in functions: what of all its rows is known. -/
import Derived.Test.YtmcogjekcefjoaaGreatDoorGk
import Derived.Test.YtmcogjekcefjoaaGreatDoorPmV
namespace Go.Pm
open Go Go.Proofs
attribute [-simp] List.getElem?_map
attribute [simp] nilCheckA postA_norm

/-- What is known of a row: its bounds, its functions. -/
abbrev RKey := Int × Int × Option ((FuncId × List AV) × (FuncId × List AV))
def RK : Option RKey → Option (Option AV) → Prop
  | none, r => r = some none
  | some (a, b, none), r => ∃ f cs g ds, r = some (some (rowA a b (.fn f cs) (.fn g ds)))
  | some (a, b, some ((f, cs), (g, ds))), r => r = some (some (rowA a b (.fn f cs) (.fn g ds)))
def lkF : List (ByteArray × RKey) → ByteArray → Option RKey
  | [], _ => none
  | (k', r) :: l, k => if k = k' then some r else lkF l k
def TabN (l : List (ByteArray × RKey)) (L : List (AV × AV)) : Prop := TabK L ∧ (L.map Prod.fst).Nodup ∧ ∀ k, RK (lkF l k) (findA (.str k) L)
/-- In a round over a map's entries. -/
def TabI (items l : List (ByteArray × RKey)) (es : List (AV × AV × Nat)) (seen : List Nat) (L : List (AV × AV)) : Prop :=
  TabK L ∧ (L.map Prod.fst).Nodup ∧ (∀ k, lkF items k = none → RK (lkF l k) (findA (.str k) L)) ∧ ∀ e ∈ es, e.2.2 ∈ seen → ∃ s r, e.1 = .str s ∧ lkF items s = some r ∧ RK (some r) (findA (.str s) L)

theorem lkF_app (l' : List (ByteArray × RKey)) (k : ByteArray) : ∀ l, lkF (l ++ l') k = match lkF l k with | some r => some r | none => lkF l' k
  | [] => rfl
  | (k', r) :: l => by
    rw [List.cons_append, lkF, lkF]
    split
    · rfl
    · exact lkF_app l' k l

theorem lkF_mem {k : ByteArray} {r : RKey} : ∀ {l : List (ByteArray × RKey)}, lkF l k = some r → k ∈ l.map Prod.fst
  | [], h => by cases h
  | (k', r') :: l, h => by
    rw [lkF] at h
    rw [List.map_cons]
    split at h
    · rename_i hk
      rw [hk]; exact List.mem_cons_self
    · exact List.mem_cons_of_mem _ (lkF_mem h)

theorem tabN_nil : TabN [] [] := ⟨fun e he => (by cases he), List.nodup_nil, fun k => rfl⟩

theorem upd_keys (k : ByteArray) (v : AV) : ∀ {L L' : List (AV × AV)}, TabK L → updA (.str k) v L = some L' → ∀ e ∈ L', e.1 = .str k ∨ e.1 ∈ L.map Prod.fst
  | [], L', _, h, e, he => by
    simp only [updA, Option.some.injEq] at h
    subst h
    rw [List.mem_singleton.1 he]; exact .inl rfl
  | (a, b) :: L, L', hT, h, e, he => by
    obtain ⟨s, hs⟩ := hT (a, b) (by simp)
    simp only at hs
    subst hs
    by_cases hk : k = s
    · subst hk
      simp only [updA, keyEq, beqB_t, Option.some.injEq] at h
      subst h
      rcases List.mem_cons.1 he with rfl | he
      · exact .inl rfl
      · exact .inr (by simp; exact .inr ⟨_, he⟩)
    · simp only [updA, keyEq, beqB_f hk, Option.map_eq_some_iff] at h
      obtain ⟨L2, h2, rfl⟩ := h
      rcases List.mem_cons.1 he with rfl | he
      · exact .inr (by simp)
      · rcases upd_keys k v (fun e he => hT e (by simp [he])) h2 e he with h | h
        · exact .inl h
        · exact .inr (by rw [List.map_cons]; exact List.mem_cons_of_mem _ h)

theorem upd_nodup (k : ByteArray) (v : AV) : ∀ {L L' : List (AV × AV)}, TabK L → (L.map Prod.fst).Nodup → updA (.str k) v L = some L' → (L'.map Prod.fst).Nodup
  | [], L', _, _, h => by
    simp only [updA, Option.some.injEq] at h
    subst h
    simp
  | (a, b) :: L, L', hT, hn, h => by
    obtain ⟨s, hs⟩ := hT (a, b) (by simp)
    simp only at hs
    subst hs
    rw [List.map_cons, List.nodup_cons] at hn
    by_cases hk : k = s
    · subst hk
      simp only [updA, keyEq, beqB_t, Option.some.injEq] at h
      subst h
      rw [List.map_cons, List.nodup_cons]
      exact hn
    · simp only [updA, keyEq, beqB_f hk, Option.map_eq_some_iff] at h
      obtain ⟨L2, h2, rfl⟩ := h
      have hT2 : TabK L := fun e he => hT e (by simp [he])
      rw [List.map_cons, List.nodup_cons]
      refine ⟨fun hm => ?_, upd_nodup k v hT2 hn.2 h2⟩
      obtain ⟨e, he, hs⟩ := List.mem_map.1 hm
      rcases upd_keys k v hT2 h2 e he with h | h
      · rw [hs] at h
        injection h with h
        exact hk h.symm
      · rw [hs] at h
        exact hn.1 h

theorem upd_tabN (k : ByteArray) (a b : Int) (f : FuncId) (cs : List AV) (g : FuncId) (ds : List AV) {l : List (ByteArray × RKey)} {L : List (AV × AV)} (h : TabN l L) :
    ∃ L', updA (.str k) (rowA a b (.fn f cs) (.fn g ds)) L = some L' ∧ TabN ((k, a, b, some ((f, cs), (g, ds))) :: l) L' := by
  obtain ⟨L', h1, h2, h3, h4⟩ := upd_tab k (rowA a b (.fn f cs) (.fn g ds)) h.1
  refine ⟨L', h1, h2, upd_nodup k _ h.1 h.2.1 h1, fun k' => ?_⟩
  rw [lkF]
  split
  · rename_i hk
    subst hk
    exact h3
  · rename_i hk
    rw [h4 k' hk]
    exact h.2.2 k'

theorem upd_tabN0 (k : ByteArray) (a b : Int) (f : FuncId) (cs : List AV) (g : FuncId) (ds : List AV) {l : List (ByteArray × RKey)} {L : List (AV × AV)} (h : TabN l L) :
    ∃ L', updA (.str k) (rowA a b (.fn f cs) (.fn g ds)) L = some L' ∧ TabN ((k, a, b, none) :: l) L' := by
  obtain ⟨L', h1, h2, h3, h4⟩ := upd_tab k (rowA a b (.fn f cs) (.fn g ds)) h.1
  refine ⟨L', h1, h2, upd_nodup k _ h.1 h.2.1 h1, fun k' => ?_⟩
  rw [lkF]
  split
  · rename_i hk
    subst hk
    exact ⟨f, cs, g, ds, h3⟩
  · rename_i hk
    rw [h4 k' hk]
    exact h.2.2 k'

theorem tabI_start (items : List (ByteArray × RKey)) (es : List (AV × AV × Nat)) {l : List (ByteArray × RKey)} {L : List (AV × AV)} (h : TabN l L) : TabI items l es [] L :=
  ⟨h.1, h.2.1, fun k _ => h.2.2 k, fun e _ hs => by cases hs⟩

theorem tabI_step {items l : List (ByteArray × RKey)} {es : List (AV × AV × Nat)} {seen : List Nat} {L : List (AV × AV)} {e e' : AV × AV × Nat} {s : ByteArray} {a b : Int} (f : FuncId) (cs : List AV) (g : FuncId) (ds : List AV) {o : Option ((FuncId × List AV) × (FuncId × List AV))} (h : TabI items l es seen L)
    (hu : ∀ e1 ∈ es, e1.2.2 = e.2.2 → e1 = e') (hs : e'.1 = .str s) (hr : lkF items s = some (a, b, o)) (ho : o = none ∨ o = some ((f, cs), (g, ds))) :
    ∃ L', updA (.str s) (rowA a b (.fn f cs) (.fn g ds)) L = some L' ∧ TabI items l es (seen ++ [e.2.2]) L' := by
  obtain ⟨L', h1, h2, h3, h4⟩ := upd_tab s (rowA a b (.fn f cs) (.fn g ds)) h.1
  refine ⟨L', h1, h2, upd_nodup s _ h.1 h.2.1 h1, fun k hk => ?_, fun e1 he1 hm => ?_⟩
  · have hne : k ≠ s := fun e => by rw [e, hr] at hk; cases hk
    rw [h4 k hne]
    exact h.2.2.1 k hk
  · have key : ∀ t, e1.1 = .str t → (t = s ∨ (t ≠ s ∧ e1.2.2 ∈ seen)) → ∃ s' r, e1.1 = .str s' ∧ lkF items s' = some r ∧ RK (some r) (findA (.str s') L') := by
      intro t ht hc
      rcases hc with rfl | ⟨hne, hin⟩
      · rcases ho with rfl | rfl
        · exact ⟨t, _, ht, hr, f, cs, g, ds, h3⟩
        · exact ⟨t, _, ht, hr, h3⟩
      · obtain ⟨s', r, i1, i2, i3⟩ := h.2.2.2 e1 he1 hin
        rw [ht] at i1
        injection i1 with i1
        subst i1
        exact ⟨t, r, ht, i2, by rw [h4 t hne]; exact i3⟩
    rcases List.mem_append.1 hm with hm | hm
    · obtain ⟨s', r, i1, i2, i3⟩ := h.2.2.2 e1 he1 hm
      by_cases hss : s' = s
      · exact key s' i1 (.inl hss)
      · exact key s' i1 (.inr ⟨hss, hm⟩)
    · have := hu e1 he1 (List.mem_singleton.1 hm)
      subst this
      exact key s hs (.inl rfl)

theorem tabI_done {items l : List (ByteArray × RKey)} {es : List (AV × AV × Nat)} {seen : List Nat} {L : List (AV × AV)} (h : TabI items l es seen L) (hall : ∀ e ∈ es, e.2.2 ∈ seen) (hes : ∀ k r, lkF items k = some r → ∃ e ∈ es, e.1 = .str k) : TabN (items ++ l) L := by
  refine ⟨h.1, h.2.1, fun k => ?_⟩
  rw [lkF_app]
  cases hi : lkF items k with
  | none => exact h.2.2.1 k hi
  | some r =>
    obtain ⟨e, he, hk⟩ := hes k r hi
    obtain ⟨s, r', i1, i2, i3⟩ := h.2.2.2 e he (hall e he)
    rw [hk] at i1
    injection i1 with i1
    subst i1
    rw [hi] at i2
    injection i2 with i2
    subst i2
    exact i3

theorem zipB_births : ∀ {kv : List (AV × AV)} {bs : List Nat} {e : AV × AV × Nat}, e ∈ zipB kv bs → e.2.2 ∈ bs := fun h => (zipB_mem h).2
theorem zipB_uniq : ∀ {kv : List (AV × AV)} {bs : List Nat}, bs.Pairwise (· < ·) → ∀ e1 ∈ zipB kv bs, ∀ e2 ∈ zipB kv bs, e1.2.2 = e2.2.2 → e1 = e2
  | [], _, _, e1, h1, _, _, _ => by simp [zipB] at h1
  | _ :: _, [], _, e1, h1, _, _, _ => by simp [zipB] at h1
  | (k, v) :: kv, b :: bs, hp, e1, h1, e2, h2, he => by
    rw [List.pairwise_cons] at hp
    simp only [zipB] at h1 h2
    rcases List.mem_cons.1 h1 with rfl | h1 <;> rcases List.mem_cons.1 h2 with rfl | h2
    · rfl
    · have := hp.1 _ (zipB_births h2); simp only at he; omega
    · have := hp.1 _ (zipB_births h1); simp only at he; omega
    · exact zipB_uniq hp.2 e1 h1 e2 h2 he
theorem zipB_all : ∀ {kv : List (AV × AV)} {bs : List Nat}, bs.length = kv.length → ∀ k v, (k, v) ∈ kv → ∃ e ∈ zipB kv bs, e.1 = k
  | [], _, _, k, v, h => by cases h
  | _ :: _, [], hl, _, _, _ => by simp at hl
  | (k', v') :: kv, b :: bs, hl, k, v, h => by
    simp only [zipB]
    rcases List.mem_cons.1 h with h | h
    · injection h with h1 h2
      subst h1
      exact ⟨_, List.mem_cons_self, rfl⟩
    · obtain ⟨e, he, h2⟩ := zipB_all (kv := kv) (bs := bs) (by simpa using hl) k v h
      exact ⟨e, List.mem_cons_of_mem _ he, h2⟩

theorem find_born2 {es : List (AV × AV × Nat)} {e : AV × AV × Nat} (he : e ∈ es) (hu : ∀ e1 ∈ es, ∀ e2 ∈ es, e1.2.2 = e2.2.2 → e1 = e2) : es.find? (fun x => x.2.2 == e.2.2) = some e := by
  obtain ⟨e', h1, h2⟩ := find_born he
  have h3 := List.find?_some h2
  simp only [beq_iff_eq] at h3
  rw [h2, hu e' h1 e he h3]

theorem next_split2 {es : List (AV × AV × Nat)} {p p' : AV × AV × Nat → Bool} {f : AV × AV × Nat → AV × Mem} {m : Mem} {Q : AV → Mem → Prop} (h0 : (∀ e ∈ es, p e = false) → Q (.tuple [.bool false]) m) (h1 : ∀ e ∈ es, p' e = true → Q (f e).1 (f e).2) :
    AllN (if (es.filter p).isEmpty then [(.tuple [.bool false], m)] else (es.filter p').map f) Q := by
  split
  · rename_i he
    have he2 : ∀ e ∈ es, p e = false := by
      intro e hm
      have h2 := List.filter_eq_nil_iff.1 (List.isEmpty_iff.1 he) e hm
      simpa using h2
    exact AllN_iff.2 fun v m' hm => by
      rcases List.mem_singleton.1 hm with h
      injection h with h2 h3
      subst h2; subst h3; exact h0 he2
  · refine AllN_iff.2 fun v m' hm => ?_
    obtain ⟨e, he, hf⟩ := List.mem_map.1 hm
    obtain ⟨he1, he2⟩ := List.mem_filter.1 he
    have := h1 e he1 he2
    rw [hf] at this
    exact this

/-- A round laid a row with the pointer of a fresh cell; nobody writes the cell any more. -/
theorem keep_round {e : Env} {S X : List (Nat × AObj)} {g gc nx pos' : Nat} {k a b c : AV} {f : FuncId} {vs : List AV} {L L1 L2 : List (AV × AV)}
    (h1 : updA k (.agg [a, b, c, .fn f [.ptr pos' gc 0]]) L = some L1) (h2 : updA k (.agg [a, b, c, .fn f [.iptr true vs]]) L = some L2) :
    Sim e ⟨S ++ (g, .map L2) :: X, nx + 1⟩ e ⟨S ++ (g, .map L1) :: (X ++ [(gc, .cells vs)]), nx⟩ := by
  have e1 : (S ++ (g, AObj.map L1) :: (X ++ [(gc, .cells vs)]))[S.length + (X.length + 1)]? = some (gc, .cells vs) := by
    rw [List.getElem?_append_right (by omega)]
    simp
  have e2 : (S ++ (g, AObj.map L1) :: (X ++ [(gc, .cells vs)]))[S.length]? = some (g, .map L1) := by simp
  have hs := Sim.keepRow (e := e) (m := ⟨S ++ (g, .map L1) :: (X ++ [(gc, .cells vs)]), nx⟩) (pos := S.length + (X.length + 1)) (pm := S.length) e1 e2 (by omega) h1 h2
  refine Sim.trans ?_ hs
  refine Sim.of_le (Env.le_refl _) (Mem.le_of rfl ?_)
  simp [Mem.turn, Mem.put, List.set_append]
  rw [take_part, List.take_succ_cons, List.take_left]
end Go.Pm

/- BkT2: contracts: the table of built-in functions, all its rows. Printed by gentab2.py. -/
namespace Go.Pm
open Go Go.Proofs
attribute [-simp] List.getElem?_map
attribute [simp] nilCheckA postA_norm

def l44 (l : List (ByteArray × RKey)) : List (ByteArray × RKey) := [(⟨#[70, 73, 88, 69, 68]⟩, 1, 3, none), (⟨#[66, 73, 78, 65, 82, 89]⟩, 1, 3, none), (⟨#[68, 69, 67, 73, 77, 65, 76]⟩, 1, 3, none), (⟨#[70, 76, 79, 65, 84]⟩, 1, 2, none)] ++ ([(⟨#[65, 68, 68]⟩, 3, 4, none), (⟨#[83, 85, 66, 84, 82, 65, 67, 84]⟩, 3, 4, none), (⟨#[77, 85, 76, 84, 73, 80, 76, 89]⟩, 3, 4, none), (⟨#[68, 73, 86, 73, 68, 69]⟩, 3, 4, none)] ++ ([(⟨#[77, 65, 88]⟩, 1, 20, none), (⟨#[77, 73, 78]⟩, 1, 20, none)] ++ ((⟨#[77, 79, 68]⟩, 2, 2, some ((75, []), (76, []))) :: ((⟨#[82, 79, 85, 78, 68]⟩, 2, 2, some ((73, []), (74, []))) :: ([(⟨#[70, 76, 79, 79, 82]⟩, 1, 1, some ((70, []), (71, [.iptr true [.int .i64 (-1)]]))), (⟨#[67, 69, 73, 76]⟩, 1, 1, some ((70, []), (71, [.iptr true [.int .i64 1]]))), (⟨#[84, 82, 85, 78, 67]⟩, 1, 1, some ((70, []), (71, [.iptr true [.int .i64 0]])))] ++ ((⟨#[83, 73, 71, 78]⟩, 1, 1, some ((65, []), (68, []))) :: ((⟨#[65, 66, 83]⟩, 1, 1, some ((61, []), (62, []))) :: (l))))))))
set_option maxHeartbeats 16000000 in
theorem call44N {S : List (Nat × AObj)} {g nx : Nat} {l : List (ByteArray × RKey)} {L : List (AV × AV)} (hL : TabN l L) :
    ACalls Bk.pg 44 [.map S.length g] ⟨S ++ [(g, .map L)], nx⟩ fun out m' => out = .ret (.tuple []) ∧ ∃ L' nx', m' = ⟨S ++ [(g, .map L')], nx'⟩ ∧ TabN (l44 l) L' := by
  refine ACalls.forget (ok44.acalls (by simp) ?_)
  obtain ⟨L1, u2, t3⟩ := upd_tabN ⟨#[65, 66, 83]⟩ 1 1 61 [] 62 [] hL
  simp only [rowA] at u2
  obtain ⟨L4, u5, t6⟩ := upd_tabN ⟨#[83, 73, 71, 78]⟩ 1 1 65 [] 68 [] t3
  simp only [rowA] at u5
  have m7 : updA (.str ⟨#[70, 76, 79, 79, 82]⟩) (.int .i64 (-1)) [] = some [(.str ⟨#[70, 76, 79, 79, 82]⟩, .int .i64 (-1))] := upd_lit (ss := []) (by decide)
  have m8 : updA (.str ⟨#[67, 69, 73, 76]⟩) (.int .i64 1) [(.str ⟨#[70, 76, 79, 79, 82]⟩, .int .i64 (-1))] = some [(.str ⟨#[70, 76, 79, 79, 82]⟩, .int .i64 (-1)), (.str ⟨#[67, 69, 73, 76]⟩, .int .i64 1)] := upd_lit (ss := [(⟨#[70, 76, 79, 79, 82]⟩, .int .i64 (-1))]) (by decide)
  have m9 : updA (.str ⟨#[84, 82, 85, 78, 67]⟩) (.int .i64 0) [(.str ⟨#[70, 76, 79, 79, 82]⟩, .int .i64 (-1)), (.str ⟨#[67, 69, 73, 76]⟩, .int .i64 1)] = some [(.str ⟨#[70, 76, 79, 79, 82]⟩, .int .i64 (-1)), (.str ⟨#[67, 69, 73, 76]⟩, .int .i64 1), (.str ⟨#[84, 82, 85, 78, 67]⟩, .int .i64 0)] := upd_lit (ss := [(⟨#[70, 76, 79, 79, 82]⟩, .int .i64 (-1)), (⟨#[67, 69, 73, 76]⟩, .int .i64 1)]) (by decide)
  simp [c44, isKey, u2, u5, m7, m8, m9]
  intro bs10 cl11 hb12 hl13
  obtain ⟨es14, he15⟩ : ∃ es, es = zipB [(AV.str ⟨#[70, 76, 79, 79, 82]⟩, AV.int .i64 (-1)), (AV.str ⟨#[67, 69, 73, 76]⟩, AV.int .i64 1), (AV.str ⟨#[84, 82, 85, 78, 67]⟩, AV.int .i64 0)] bs10 := ⟨_, rfl⟩
  have ha16 : es14.all (fun e => e.2.2 < cl11) = true := by rw [he15]; exact born_all hb12
  have hu22 : ∀ e1 ∈ es14, ∀ e2 ∈ es14, e1.2.2 = e2.2.2 → e1 = e2 := by rw [he15]; exact zipB_uniq hb12.1
  have hx23 : ∀ k r, lkF [(⟨#[70, 76, 79, 79, 82]⟩, 1, 1, some ((70, []), (71, [.iptr true [.int .i64 (-1)]]))), (⟨#[67, 69, 73, 76]⟩, 1, 1, some ((70, []), (71, [.iptr true [.int .i64 1]]))), (⟨#[84, 82, 85, 78, 67]⟩, 1, 1, some ((70, []), (71, [.iptr true [.int .i64 0]])))] k = some r → ∃ e ∈ es14, e.1 = .str k := by
    intro k r hr
    have hk : (AV.str k) ∈ ([(AV.str ⟨#[70, 76, 79, 79, 82]⟩, AV.int .i64 (-1)), (AV.str ⟨#[67, 69, 73, 76]⟩, AV.int .i64 1), (AV.str ⟨#[84, 82, 85, 78, 67]⟩, AV.int .i64 0)]).map Prod.fst := List.mem_map_of_mem (f := AV.str) (lkF_mem hr)
    obtain ⟨e, he, hek⟩ := List.mem_map.1 hk
    rw [he15, ← hek]
    exact zipB_all (by simpa using hl13) _ _ he
  have hk17 : ∀ e ∈ es14, ∃ s x, e.1 = .str s ∧ e.2.1 = .int .i64 x ∧ lkF [(⟨#[70, 76, 79, 79, 82]⟩, 1, 1, some ((70, []), (71, [.iptr true [.int .i64 (-1)]]))), (⟨#[67, 69, 73, 76]⟩, 1, 1, some ((70, []), (71, [.iptr true [.int .i64 1]]))), (⟨#[84, 82, 85, 78, 67]⟩, 1, 1, some ((70, []), (71, [.iptr true [.int .i64 0]])))] s = some (1, 1, some ((70, []), (71, [.iptr true [(.int .i64 x)]]))) := by
    intro e he
    rw [he15] at he
    have h1 := (zipB_mem he).1
    simp only [List.mem_cons, List.not_mem_nil, or_false, Prod.mk.injEq] at h1
    rcases h1 with ⟨h1, h2⟩ | ⟨h1, h2⟩ | ⟨h1, h2⟩ <;> exact ⟨_, _, h1, h2, by first | rfl | simp [lkF]⟩
  rw [← he15]
  refine wpS_loopS (ι := List Nat × List (AV × AV) × Nat) (fun _ => [(0, .map S.length g), (17, .ptr (S.length + 2) (nx + 1) 0)]) (fun s => ⟨S ++ [(g, .map s.2.1), (nx, .emap es14 cl11), (nx + 1, .iter (S.length + 1) (nx) cl11 s.1 cl11)], s.2.2⟩)
    (fun s => (es14.filter fun x => !s.1.contains x.2.2).length) (fun s => TabI [(⟨#[70, 76, 79, 79, 82]⟩, 1, 1, some ((70, []), (71, [.iptr true [.int .i64 (-1)]]))), (⟨#[67, 69, 73, 76]⟩, 1, 1, some ((70, []), (71, [.iptr true [.int .i64 1]]))), (⟨#[84, 82, 85, 78, 67]⟩, 1, 1, some ((70, []), (71, [.iptr true [.int .i64 0]])))] ((⟨#[83, 73, 71, 78]⟩, 1, 1, some ((65, []), (68, []))) :: ((⟨#[65, 66, 83]⟩, 1, 1, some ((61, []), (62, []))) :: (l))) es14 s.1 s.2.1) ([], L4, nx + 2) (tabI_start _ _ t6) (Sim.of_le (Env.le_of (by simp)) (Mem.le_of rfl (by simp [take_part]))) ?_
  rintro ⟨seen18, L19, n20⟩ t21
  simp only at t21
  simp [ha16]
  refine next_split2 (fun hd => ?_) (fun e he hp => ?_)
  rotate_left
  · obtain ⟨s, x, hs, hx, hr⟩ := hk17 e he
    have hf := find_born2 he hu22
    obtain ⟨L', u', t'⟩ := tabI_step (e := e) 70 [] 71 [.iptr true [.int .i64 x]] t21 (fun e1 h1 h2 => hu22 e1 h1 e he h2) hs hr (.inr rfl)
    obtain ⟨L1, u1, _⟩ := upd_tab s (rowA 1 1 (.fn 70 []) (.fn 71 [.ptr (S.length + 3) (n20) 0])) t21.1
    simp only [rowA] at u' u1
    simp [hf, hs, hx, isKey, u1]
    refine ⟨seen18 ++ [e.2.2], L', t', n20 + 2, by simpa using unseen_less he (by simpa using hp), Sim.trans (Sim.of_le (Env.le_of (by simp)) (Mem.le_of rfl (by simp [take_part]))) (keep_round u1 u')⟩
  have t24 := tabI_done t21 (fun e he => by simpa using hd e he) hx23
  clear t21
  obtain ⟨L25, u26, t27⟩ := upd_tabN ⟨#[82, 79, 85, 78, 68]⟩ 2 2 73 [] 74 [] t24
  simp only [rowA] at u26
  obtain ⟨L28, u29, t30⟩ := upd_tabN ⟨#[77, 79, 68]⟩ 2 2 75 [] 76 [] t27
  simp only [rowA] at u29
  have m31 : updA (.str ⟨#[77, 65, 88]⟩) (.int .i64 1) [] = some [(.str ⟨#[77, 65, 88]⟩, .int .i64 1)] := upd_lit (ss := []) (by decide)
  have m32 : updA (.str ⟨#[77, 73, 78]⟩) (.int .i64 (-1)) [(.str ⟨#[77, 65, 88]⟩, .int .i64 1)] = some [(.str ⟨#[77, 65, 88]⟩, .int .i64 1), (.str ⟨#[77, 73, 78]⟩, .int .i64 (-1))] := upd_lit (ss := [(⟨#[77, 65, 88]⟩, .int .i64 1)]) (by decide)
  simp [isKey, u26, u29, m31, m32]
  intro bs33 cl34 hb35 hl36
  obtain ⟨es37, he38⟩ : ∃ es, es = zipB [(AV.str ⟨#[77, 65, 88]⟩, AV.int .i64 1), (AV.str ⟨#[77, 73, 78]⟩, AV.int .i64 (-1))] bs33 := ⟨_, rfl⟩
  have ha39 : es37.all (fun e => e.2.2 < cl34) = true := by rw [he38]; exact born_all hb35
  have hu45 : ∀ e1 ∈ es37, ∀ e2 ∈ es37, e1.2.2 = e2.2.2 → e1 = e2 := by rw [he38]; exact zipB_uniq hb35.1
  have hx46 : ∀ k r, lkF [(⟨#[77, 65, 88]⟩, 1, 20, none), (⟨#[77, 73, 78]⟩, 1, 20, none)] k = some r → ∃ e ∈ es37, e.1 = .str k := by
    intro k r hr
    have hk : (AV.str k) ∈ ([(AV.str ⟨#[77, 65, 88]⟩, AV.int .i64 1), (AV.str ⟨#[77, 73, 78]⟩, AV.int .i64 (-1))]).map Prod.fst := List.mem_map_of_mem (f := AV.str) (lkF_mem hr)
    obtain ⟨e, he, hek⟩ := List.mem_map.1 hk
    rw [he38, ← hek]
    exact zipB_all (by simpa using hl36) _ _ he
  have hk40 : ∀ e ∈ es37, ∃ s x, e.1 = .str s ∧ e.2.1 = .int .i64 x ∧ lkF [(⟨#[77, 65, 88]⟩, 1, 20, none), (⟨#[77, 73, 78]⟩, 1, 20, none)] s = some (1, 20, none) := by
    intro e he
    rw [he38] at he
    have h1 := (zipB_mem he).1
    simp only [List.mem_cons, List.not_mem_nil, or_false, Prod.mk.injEq] at h1
    rcases h1 with ⟨h1, h2⟩ | ⟨h1, h2⟩ <;> exact ⟨_, _, h1, h2, by first | rfl | simp [lkF]⟩
  rw [← he38]
  refine wpS_loopS (ι := List Nat × List (AV × AV) × Nat) (fun _ => [(0, .map S.length g), (33, .ptr (S.length + 4) (n20 + 1) 0)]) (fun s => ⟨S ++ [(g, .map s.2.1), (nx, .emap es14 cl11), (nx + 1, .iter (S.length + 1) (nx) cl11 seen18 cl11), (n20, .emap es37 cl34), (n20 + 1, .iter (S.length + 3) (n20) cl34 s.1 cl34)], s.2.2⟩)
    (fun s => (es37.filter fun x => !s.1.contains x.2.2).length) (fun s => TabI [(⟨#[77, 65, 88]⟩, 1, 20, none), (⟨#[77, 73, 78]⟩, 1, 20, none)] ((⟨#[77, 79, 68]⟩, 2, 2, some ((75, []), (76, []))) :: ((⟨#[82, 79, 85, 78, 68]⟩, 2, 2, some ((73, []), (74, []))) :: ([(⟨#[70, 76, 79, 79, 82]⟩, 1, 1, some ((70, []), (71, [.iptr true [.int .i64 (-1)]]))), (⟨#[67, 69, 73, 76]⟩, 1, 1, some ((70, []), (71, [.iptr true [.int .i64 1]]))), (⟨#[84, 82, 85, 78, 67]⟩, 1, 1, some ((70, []), (71, [.iptr true [.int .i64 0]])))] ++ ((⟨#[83, 73, 71, 78]⟩, 1, 1, some ((65, []), (68, []))) :: ((⟨#[65, 66, 83]⟩, 1, 1, some ((61, []), (62, []))) :: (l)))))) es37 s.1 s.2.1) ([], L28, n20 + 2) (tabI_start _ _ t30) (Sim.of_le (Env.le_of (by simp)) (Mem.le_of rfl (by simp [take_part]))) ?_
  rintro ⟨seen41, L42, n43⟩ t44
  simp only at t44
  simp [ha39]
  refine next_split2 (fun hd => ?_) (fun e he hp => ?_)
  rotate_left
  · obtain ⟨s, x, hs, hx, hr⟩ := hk40 e he
    have hf := find_born2 he hu45
    obtain ⟨L', u', t'⟩ := tabI_step (e := e) 75 [] 77 [.ptr (S.length + 5) (n43) 0] t44 (fun e1 h1 h2 => hu45 e1 h1 e he h2) hs hr (.inl rfl)
    simp only [rowA] at u'
    
    have one : Value.nilFunc.oneCell' = true := rfl
    simp [hf, hs, hx, isKey, u', one]
    exact ⟨seen41 ++ [e.2.2], L', t', n43 + 1, by simpa using unseen_less he (by simpa using hp), Sim.of_le (Env.le_of (by simp)) (Mem.le_of rfl (by simp [take_part]))⟩
  have t47 := tabI_done t44 (fun e he => by simpa using hd e he) hx46
  clear t44
  have m48 : updA (.str ⟨#[65, 68, 68]⟩) (.fn 79 []) [] = some [(.str ⟨#[65, 68, 68]⟩, .fn 79 [])] := upd_lit (ss := []) (by decide)
  have m49 : updA (.str ⟨#[83, 85, 66, 84, 82, 65, 67, 84]⟩) (.fn 80 []) [(.str ⟨#[65, 68, 68]⟩, .fn 79 [])] = some [(.str ⟨#[65, 68, 68]⟩, .fn 79 []), (.str ⟨#[83, 85, 66, 84, 82, 65, 67, 84]⟩, .fn 80 [])] := upd_lit (ss := [(⟨#[65, 68, 68]⟩, .fn 79 [])]) (by decide)
  have m50 : updA (.str ⟨#[77, 85, 76, 84, 73, 80, 76, 89]⟩) (.fn 81 []) [(.str ⟨#[65, 68, 68]⟩, .fn 79 []), (.str ⟨#[83, 85, 66, 84, 82, 65, 67, 84]⟩, .fn 80 [])] = some [(.str ⟨#[65, 68, 68]⟩, .fn 79 []), (.str ⟨#[83, 85, 66, 84, 82, 65, 67, 84]⟩, .fn 80 []), (.str ⟨#[77, 85, 76, 84, 73, 80, 76, 89]⟩, .fn 81 [])] := upd_lit (ss := [(⟨#[65, 68, 68]⟩, .fn 79 []), (⟨#[83, 85, 66, 84, 82, 65, 67, 84]⟩, .fn 80 [])]) (by decide)
  have m51 : updA (.str ⟨#[68, 73, 86, 73, 68, 69]⟩) (.fn 82 []) [(.str ⟨#[65, 68, 68]⟩, .fn 79 []), (.str ⟨#[83, 85, 66, 84, 82, 65, 67, 84]⟩, .fn 80 []), (.str ⟨#[77, 85, 76, 84, 73, 80, 76, 89]⟩, .fn 81 [])] = some [(.str ⟨#[65, 68, 68]⟩, .fn 79 []), (.str ⟨#[83, 85, 66, 84, 82, 65, 67, 84]⟩, .fn 80 []), (.str ⟨#[77, 85, 76, 84, 73, 80, 76, 89]⟩, .fn 81 []), (.str ⟨#[68, 73, 86, 73, 68, 69]⟩, .fn 82 [])] := upd_lit (ss := [(⟨#[65, 68, 68]⟩, .fn 79 []), (⟨#[83, 85, 66, 84, 82, 65, 67, 84]⟩, .fn 80 []), (⟨#[77, 85, 76, 84, 73, 80, 76, 89]⟩, .fn 81 [])]) (by decide)
  have one : Value.nilFunc.oneCell' = true := rfl
  simp [isKey, m48, m49, m50, m51]
  intro bs52 cl53 hb54 hl55
  obtain ⟨es56, he57⟩ : ∃ es, es = zipB [(AV.str ⟨#[65, 68, 68]⟩, AV.fn 79 []), (AV.str ⟨#[83, 85, 66, 84, 82, 65, 67, 84]⟩, AV.fn 80 []), (AV.str ⟨#[77, 85, 76, 84, 73, 80, 76, 89]⟩, AV.fn 81 []), (AV.str ⟨#[68, 73, 86, 73, 68, 69]⟩, AV.fn 82 [])] bs52 := ⟨_, rfl⟩
  have ha58 : es56.all (fun e => e.2.2 < cl53) = true := by rw [he57]; exact born_all hb54
  have hu64 : ∀ e1 ∈ es56, ∀ e2 ∈ es56, e1.2.2 = e2.2.2 → e1 = e2 := by rw [he57]; exact zipB_uniq hb54.1
  have hx65 : ∀ k r, lkF [(⟨#[65, 68, 68]⟩, 3, 4, none), (⟨#[83, 85, 66, 84, 82, 65, 67, 84]⟩, 3, 4, none), (⟨#[77, 85, 76, 84, 73, 80, 76, 89]⟩, 3, 4, none), (⟨#[68, 73, 86, 73, 68, 69]⟩, 3, 4, none)] k = some r → ∃ e ∈ es56, e.1 = .str k := by
    intro k r hr
    have hk : (AV.str k) ∈ ([(AV.str ⟨#[65, 68, 68]⟩, AV.fn 79 []), (AV.str ⟨#[83, 85, 66, 84, 82, 65, 67, 84]⟩, AV.fn 80 []), (AV.str ⟨#[77, 85, 76, 84, 73, 80, 76, 89]⟩, AV.fn 81 []), (AV.str ⟨#[68, 73, 86, 73, 68, 69]⟩, AV.fn 82 [])]).map Prod.fst := List.mem_map_of_mem (f := AV.str) (lkF_mem hr)
    obtain ⟨e, he, hek⟩ := List.mem_map.1 hk
    rw [he57, ← hek]
    exact zipB_all (by simpa using hl55) _ _ he
  have hk59 : ∀ e ∈ es56, ∃ s x, e.1 = .str s ∧ e.2.1 = .fn x [] ∧ lkF [(⟨#[65, 68, 68]⟩, 3, 4, none), (⟨#[83, 85, 66, 84, 82, 65, 67, 84]⟩, 3, 4, none), (⟨#[77, 85, 76, 84, 73, 80, 76, 89]⟩, 3, 4, none), (⟨#[68, 73, 86, 73, 68, 69]⟩, 3, 4, none)] s = some (3, 4, none) := by
    intro e he
    rw [he57] at he
    have h1 := (zipB_mem he).1
    simp only [List.mem_cons, List.not_mem_nil, or_false, Prod.mk.injEq] at h1
    rcases h1 with ⟨h1, h2⟩ | ⟨h1, h2⟩ | ⟨h1, h2⟩ | ⟨h1, h2⟩ <;> exact ⟨_, _, h1, h2, by first | rfl | simp [lkF]⟩
  rw [← he57]
  refine wpS_loopS (ι := List Nat × List (AV × AV) × Nat) (fun _ => [(0, .map S.length g), (45, .ptr (S.length + 6) (n43 + 1) 0)]) (fun s => ⟨S ++ [(g, .map s.2.1), (nx, .emap es14 cl11), (nx + 1, .iter (S.length + 1) (nx) cl11 seen18 cl11), (n20, .emap es37 cl34), (n20 + 1, .iter (S.length + 3) (n20) cl34 seen41 cl34), (n43, .emap es56 cl53), (n43 + 1, .iter (S.length + 5) (n43) cl53 s.1 cl53)], s.2.2⟩)
    (fun s => (es56.filter fun x => !s.1.contains x.2.2).length) (fun s => TabI [(⟨#[65, 68, 68]⟩, 3, 4, none), (⟨#[83, 85, 66, 84, 82, 65, 67, 84]⟩, 3, 4, none), (⟨#[77, 85, 76, 84, 73, 80, 76, 89]⟩, 3, 4, none), (⟨#[68, 73, 86, 73, 68, 69]⟩, 3, 4, none)] ([(⟨#[77, 65, 88]⟩, 1, 20, none), (⟨#[77, 73, 78]⟩, 1, 20, none)] ++ ((⟨#[77, 79, 68]⟩, 2, 2, some ((75, []), (76, []))) :: ((⟨#[82, 79, 85, 78, 68]⟩, 2, 2, some ((73, []), (74, []))) :: ([(⟨#[70, 76, 79, 79, 82]⟩, 1, 1, some ((70, []), (71, [.iptr true [.int .i64 (-1)]]))), (⟨#[67, 69, 73, 76]⟩, 1, 1, some ((70, []), (71, [.iptr true [.int .i64 1]]))), (⟨#[84, 82, 85, 78, 67]⟩, 1, 1, some ((70, []), (71, [.iptr true [.int .i64 0]])))] ++ ((⟨#[83, 73, 71, 78]⟩, 1, 1, some ((65, []), (68, []))) :: ((⟨#[65, 66, 83]⟩, 1, 1, some ((61, []), (62, []))) :: (l))))))) es56 s.1 s.2.1) ([], L42, n43 + 2) (tabI_start _ _ t47) (Sim.of_le (Env.le_of (by simp)) (Mem.le_of rfl (by simp [take_part]))) ?_
  rintro ⟨seen60, L61, n62⟩ t63
  simp only at t63
  simp [ha58]
  refine next_split2 (fun hd => ?_) (fun e he hp => ?_)
  rotate_left
  · obtain ⟨s, x, hs, hx, hr⟩ := hk59 e he
    have hf := find_born2 he hu64
    obtain ⟨L', u', t'⟩ := tabI_step (e := e) 83 [] 84 [.ptr (S.length + 7) (n62) 0] t63 (fun e1 h1 h2 => hu64 e1 h1 e he h2) hs hr (.inl rfl)
    simp only [rowA] at u'
    
    have one : Value.nilFunc.oneCell' = true := rfl
    simp [hf, hs, hx, isKey, u', one]
    exact ⟨seen60 ++ [e.2.2], L', t', n62 + 1, by simpa using unseen_less he (by simpa using hp), Sim.of_le (Env.le_of (by simp)) (Mem.le_of rfl (by simp [take_part]))⟩
  have t66 := tabI_done t63 (fun e he => by simpa using hd e he) hx65
  clear t63
  have m67 : updA (.str ⟨#[70, 73, 88, 69, 68]⟩) (.int .i64 0) [] = some [(.str ⟨#[70, 73, 88, 69, 68]⟩, .int .i64 0)] := upd_lit (ss := []) (by decide)
  have m68 : updA (.str ⟨#[66, 73, 78, 65, 82, 89]⟩) (.int .i64 1) [(.str ⟨#[70, 73, 88, 69, 68]⟩, .int .i64 0)] = some [(.str ⟨#[70, 73, 88, 69, 68]⟩, .int .i64 0), (.str ⟨#[66, 73, 78, 65, 82, 89]⟩, .int .i64 1)] := upd_lit (ss := [(⟨#[70, 73, 88, 69, 68]⟩, .int .i64 0)]) (by decide)
  have m69 : updA (.str ⟨#[68, 69, 67, 73, 77, 65, 76]⟩) (.int .i64 2) [(.str ⟨#[70, 73, 88, 69, 68]⟩, .int .i64 0), (.str ⟨#[66, 73, 78, 65, 82, 89]⟩, .int .i64 1)] = some [(.str ⟨#[70, 73, 88, 69, 68]⟩, .int .i64 0), (.str ⟨#[66, 73, 78, 65, 82, 89]⟩, .int .i64 1), (.str ⟨#[68, 69, 67, 73, 77, 65, 76]⟩, .int .i64 2)] := upd_lit (ss := [(⟨#[70, 73, 88, 69, 68]⟩, .int .i64 0), (⟨#[66, 73, 78, 65, 82, 89]⟩, .int .i64 1)]) (by decide)
  have m70 : updA (.str ⟨#[70, 76, 79, 65, 84]⟩) (.int .i64 3) [(.str ⟨#[70, 73, 88, 69, 68]⟩, .int .i64 0), (.str ⟨#[66, 73, 78, 65, 82, 89]⟩, .int .i64 1), (.str ⟨#[68, 69, 67, 73, 77, 65, 76]⟩, .int .i64 2)] = some [(.str ⟨#[70, 73, 88, 69, 68]⟩, .int .i64 0), (.str ⟨#[66, 73, 78, 65, 82, 89]⟩, .int .i64 1), (.str ⟨#[68, 69, 67, 73, 77, 65, 76]⟩, .int .i64 2), (.str ⟨#[70, 76, 79, 65, 84]⟩, .int .i64 3)] := upd_lit (ss := [(⟨#[70, 73, 88, 69, 68]⟩, .int .i64 0), (⟨#[66, 73, 78, 65, 82, 89]⟩, .int .i64 1), (⟨#[68, 69, 67, 73, 77, 65, 76]⟩, .int .i64 2)]) (by decide)
  simp [isKey, m67, m68, m69, m70]
  intro bs71 cl72 hb73 hl74
  obtain ⟨es75, he76⟩ : ∃ es, es = zipB [(AV.str ⟨#[70, 73, 88, 69, 68]⟩, AV.int .i64 0), (AV.str ⟨#[66, 73, 78, 65, 82, 89]⟩, AV.int .i64 1), (AV.str ⟨#[68, 69, 67, 73, 77, 65, 76]⟩, AV.int .i64 2), (AV.str ⟨#[70, 76, 79, 65, 84]⟩, AV.int .i64 3)] bs71 := ⟨_, rfl⟩
  have ha77 : es75.all (fun e => e.2.2 < cl72) = true := by rw [he76]; exact born_all hb73
  have hu83 : ∀ e1 ∈ es75, ∀ e2 ∈ es75, e1.2.2 = e2.2.2 → e1 = e2 := by rw [he76]; exact zipB_uniq hb73.1
  have hx84 : ∀ k r, lkF [(⟨#[70, 73, 88, 69, 68]⟩, 1, 3, none), (⟨#[66, 73, 78, 65, 82, 89]⟩, 1, 3, none), (⟨#[68, 69, 67, 73, 77, 65, 76]⟩, 1, 3, none), (⟨#[70, 76, 79, 65, 84]⟩, 1, 2, none)] k = some r → ∃ e ∈ es75, e.1 = .str k := by
    intro k r hr
    have hk : (AV.str k) ∈ ([(AV.str ⟨#[70, 73, 88, 69, 68]⟩, AV.int .i64 0), (AV.str ⟨#[66, 73, 78, 65, 82, 89]⟩, AV.int .i64 1), (AV.str ⟨#[68, 69, 67, 73, 77, 65, 76]⟩, AV.int .i64 2), (AV.str ⟨#[70, 76, 79, 65, 84]⟩, AV.int .i64 3)]).map Prod.fst := List.mem_map_of_mem (f := AV.str) (lkF_mem hr)
    obtain ⟨e, he, hek⟩ := List.mem_map.1 hk
    rw [he76, ← hek]
    exact zipB_all (by simpa using hl74) _ _ he
  have hk78 : ∀ e ∈ es75, ∃ s x, e.1 = .str s ∧ e.2.1 = .int .i64 x ∧ lkF [(⟨#[70, 73, 88, 69, 68]⟩, 1, 3, none), (⟨#[66, 73, 78, 65, 82, 89]⟩, 1, 3, none), (⟨#[68, 69, 67, 73, 77, 65, 76]⟩, 1, 3, none), (⟨#[70, 76, 79, 65, 84]⟩, 1, 2, none)] s = some (1, (if x = 3 then 2 else 3), none) := by
    intro e he
    rw [he76] at he
    have h1 := (zipB_mem he).1
    simp only [List.mem_cons, List.not_mem_nil, or_false, Prod.mk.injEq] at h1
    rcases h1 with ⟨h1, h2⟩ | ⟨h1, h2⟩ | ⟨h1, h2⟩ | ⟨h1, h2⟩ <;> exact ⟨_, _, h1, h2, by first | rfl | simp [lkF]⟩
  rw [← he76]
  refine wpS_loopS (ι := List Nat × List (AV × AV) × Nat) (fun _ => [(0, .map S.length g), (57, .ptr (S.length + 8) (n62 + 1) 0)]) (fun s => ⟨S ++ [(g, .map s.2.1), (nx, .emap es14 cl11), (nx + 1, .iter (S.length + 1) (nx) cl11 seen18 cl11), (n20, .emap es37 cl34), (n20 + 1, .iter (S.length + 3) (n20) cl34 seen41 cl34), (n43, .emap es56 cl53), (n43 + 1, .iter (S.length + 5) (n43) cl53 seen60 cl53), (n62, .emap es75 cl72), (n62 + 1, .iter (S.length + 7) (n62) cl72 s.1 cl72)], s.2.2⟩)
    (fun s => (es75.filter fun x => !s.1.contains x.2.2).length) (fun s => TabI [(⟨#[70, 73, 88, 69, 68]⟩, 1, 3, none), (⟨#[66, 73, 78, 65, 82, 89]⟩, 1, 3, none), (⟨#[68, 69, 67, 73, 77, 65, 76]⟩, 1, 3, none), (⟨#[70, 76, 79, 65, 84]⟩, 1, 2, none)] ([(⟨#[65, 68, 68]⟩, 3, 4, none), (⟨#[83, 85, 66, 84, 82, 65, 67, 84]⟩, 3, 4, none), (⟨#[77, 85, 76, 84, 73, 80, 76, 89]⟩, 3, 4, none), (⟨#[68, 73, 86, 73, 68, 69]⟩, 3, 4, none)] ++ ([(⟨#[77, 65, 88]⟩, 1, 20, none), (⟨#[77, 73, 78]⟩, 1, 20, none)] ++ ((⟨#[77, 79, 68]⟩, 2, 2, some ((75, []), (76, []))) :: ((⟨#[82, 79, 85, 78, 68]⟩, 2, 2, some ((73, []), (74, []))) :: ([(⟨#[70, 76, 79, 79, 82]⟩, 1, 1, some ((70, []), (71, [.iptr true [.int .i64 (-1)]]))), (⟨#[67, 69, 73, 76]⟩, 1, 1, some ((70, []), (71, [.iptr true [.int .i64 1]]))), (⟨#[84, 82, 85, 78, 67]⟩, 1, 1, some ((70, []), (71, [.iptr true [.int .i64 0]])))] ++ ((⟨#[83, 73, 71, 78]⟩, 1, 1, some ((65, []), (68, []))) :: ((⟨#[65, 66, 83]⟩, 1, 1, some ((61, []), (62, []))) :: (l)))))))) es75 s.1 s.2.1) ([], L61, n62 + 2) (tabI_start _ _ t66) (Sim.of_le (Env.le_of (by simp)) (Mem.le_of rfl (by simp [take_part]))) ?_
  rintro ⟨seen79, L80, n81⟩ t82
  simp only at t82
  simp [ha77]
  refine next_split2 (fun hd => ?_) (fun e he hp => ?_)
  rotate_left
  · obtain ⟨s, x, hs, hx, hr⟩ := hk78 e he
    have hf := find_born2 he hu83
    simp [hf, hs, hx, isKey]
    refine br_cond rfl (fun h5 => ?_) (fun h5 => ?_)
    · rw [if_pos (eqI_t.1 h5)] at hr
      obtain ⟨L', u', t'⟩ := tabI_step (e := e) 87 [.ptr (S.length + 9) (n81) 0] 89 [] t82 (fun e1 h1 h2 => hu83 e1 h1 e he h2) hs hr (.inl rfl)
      simp only [rowA] at u'
      simp [isKey, u']
      exact ⟨seen79 ++ [e.2.2], L', t', n81 + 1, by simpa using unseen_less he (by simpa using hp), Sim.of_le (Env.le_of (by simp)) (Mem.le_of rfl (by simp [take_part]))⟩
    · rw [if_neg (eqI_f.1 h5)] at hr
      obtain ⟨L', u', t'⟩ := tabI_step (e := e) 87 [.ptr (S.length + 9) (n81) 0] 89 [] t82 (fun e1 h1 h2 => hu83 e1 h1 e he h2) hs hr (.inl rfl)
      simp only [rowA] at u'
      simp [isKey, u']
      exact ⟨seen79 ++ [e.2.2], L', t', n81 + 1, by simpa using unseen_less he (by simpa using hp), Sim.of_le (Env.le_of (by simp)) (Mem.le_of rfl (by simp [take_part]))⟩
  have t85 := tabI_done t82 (fun e he => by simpa using hd e he) hx84
  clear t82
  simp [cr44]
  exact ⟨⟨S ++ [(g, .map L80)], _⟩, Mem.le_of rfl (by simp [take_part]), _, ⟨_, rfl⟩, t85⟩

def l45 (l : List (ByteArray × RKey)) : List (ByteArray × RKey) := (⟨#[86, 69, 82, 73, 70, 89]⟩, 2, 2, none) :: ((⟨#[73, 78, 68, 69, 88]⟩, 2, 2, none) :: ((⟨#[83, 85, 66, 83, 84, 82]⟩, 2, 3, some ((95, []), (96, []))) :: ((⟨#[76, 69, 78, 71, 84, 72]⟩, 1, 1, some ((90, []), (94, []))) :: (l))))
set_option maxHeartbeats 16000000 in
theorem call45N {S : List (Nat × AObj)} {g nx : Nat} {l : List (ByteArray × RKey)} {L : List (AV × AV)} (hL : TabN l L) :
    ACalls Bk.pg 45 [.map S.length g] ⟨S ++ [(g, .map L)], nx⟩ fun out m' => out = .ret (.tuple []) ∧ ∃ L' nx', m' = ⟨S ++ [(g, .map L')], nx'⟩ ∧ TabN (l45 l) L' := by
  refine ACalls.forget (ok45.acalls (by simp) ?_)
  have one : Value.nilFunc.oneCell' = true := rfl
  obtain ⟨L1, u2, t3⟩ := upd_tabN ⟨#[76, 69, 78, 71, 84, 72]⟩ 1 1 90 [] 94 [] hL
  simp only [rowA] at u2
  obtain ⟨L4, u5, t6⟩ := upd_tabN ⟨#[83, 85, 66, 83, 84, 82]⟩ 2 3 95 [] 96 [] t3
  simp only [rowA] at u5
  obtain ⟨L7, u8, t9⟩ := upd_tabN0 ⟨#[73, 78, 68, 69, 88]⟩ 2 2 90 [] 97 [.ptr (S.length + 1) nx 0] t6
  simp only [rowA] at u8
  obtain ⟨L10, u11, t12⟩ := upd_tabN0 ⟨#[86, 69, 82, 73, 70, 89]⟩ 2 2 90 [] 99 [.ptr (S.length + 1) nx 0] t9
  simp only [rowA] at u11
  simp [c45, isKey, u2, u5, u8, u11, one, cr45]
  exact ⟨⟨S ++ [(g, .map L10)], _⟩, Mem.le_of rfl (by simp [take_part]), _, ⟨_, rfl⟩, t12⟩

def l46 (l : List (ByteArray × RKey)) : List (ByteArray × RKey) := [(⟨#[72, 73, 71, 72]⟩, 1, 1, none), (⟨#[76, 79, 87]⟩, 1, 1, none)] ++ ([(⟨#[67, 72, 65, 82]⟩, 1, 2, none), (⟨#[66, 73, 84]⟩, 1, 2, none)] ++ ((⟨#[66, 79, 79, 76]⟩, 3, 3, some ((114, []), (115, []))) :: ((⟨#[83, 84, 82, 73, 78, 71]⟩, 1, 1, some ((101, []), (113, []))) :: ((⟨#[82, 69, 86, 69, 82, 83, 69]⟩, 1, 1, some ((101, []), (111, []))) :: ((⟨#[67, 79, 80, 89]⟩, 2, 2, some ((106, []), (110, []))) :: ((⟨#[82, 69, 80, 69, 65, 84]⟩, 2, 2, some ((106, []), (108, []))) :: ((⟨#[84, 82, 65, 78, 83, 76, 65, 84, 69]⟩, 3, 3, some ((102, []), (103, []))) :: (l))))))))
set_option maxHeartbeats 16000000 in
theorem call46N {S : List (Nat × AObj)} {g nx : Nat} {l : List (ByteArray × RKey)} {L : List (AV × AV)} (hL : TabN l L) :
    ACalls Bk.pg 46 [.map S.length g] ⟨S ++ [(g, .map L)], nx⟩ fun out m' => out = .ret (.tuple []) ∧ ∃ L' nx', m' = ⟨S ++ [(g, .map L')], nx'⟩ ∧ TabN (l46 l) L' := by
  refine ACalls.forget (ok46.acalls (by simp) ?_)
  have one : Value.nilFunc.oneCell' = true := rfl
  obtain ⟨L1, u2, t3⟩ := upd_tabN ⟨#[84, 82, 65, 78, 83, 76, 65, 84, 69]⟩ 3 3 102 [] 103 [] hL
  simp only [rowA] at u2
  obtain ⟨L4, u5, t6⟩ := upd_tabN ⟨#[82, 69, 80, 69, 65, 84]⟩ 2 2 106 [] 108 [] t3
  simp only [rowA] at u5
  obtain ⟨L7, u8, t9⟩ := upd_tabN ⟨#[67, 79, 80, 89]⟩ 2 2 106 [] 110 [] t6
  simp only [rowA] at u8
  obtain ⟨L10, u11, t12⟩ := upd_tabN ⟨#[82, 69, 86, 69, 82, 83, 69]⟩ 1 1 101 [] 111 [] t9
  simp only [rowA] at u11
  obtain ⟨L13, u14, t15⟩ := upd_tabN ⟨#[83, 84, 82, 73, 78, 71]⟩ 1 1 101 [] 113 [] t12
  simp only [rowA] at u14
  obtain ⟨L16, u17, t18⟩ := upd_tabN ⟨#[66, 79, 79, 76]⟩ 3 3 114 [] 115 [] t15
  simp only [rowA] at u17
  have m19 : updA (.str ⟨#[67, 72, 65, 82]⟩) (.int .i64 4) [] = some [(.str ⟨#[67, 72, 65, 82]⟩, .int .i64 4)] := upd_lit (ss := []) (by decide)
  have m20 : updA (.str ⟨#[66, 73, 84]⟩) (.int .i64 5) [(.str ⟨#[67, 72, 65, 82]⟩, .int .i64 4)] = some [(.str ⟨#[67, 72, 65, 82]⟩, .int .i64 4), (.str ⟨#[66, 73, 84]⟩, .int .i64 5)] := upd_lit (ss := [(⟨#[67, 72, 65, 82]⟩, .int .i64 4)]) (by decide)
  simp [c46, isKey, u2, u5, u8, u11, u14, u17, m19, m20]
  intro bs21 cl22 hb23 hl24
  obtain ⟨es25, he26⟩ : ∃ es, es = zipB [(AV.str ⟨#[67, 72, 65, 82]⟩, AV.int .i64 4), (AV.str ⟨#[66, 73, 84]⟩, AV.int .i64 5)] bs21 := ⟨_, rfl⟩
  have ha27 : es25.all (fun e => e.2.2 < cl22) = true := by rw [he26]; exact born_all hb23
  have hu33 : ∀ e1 ∈ es25, ∀ e2 ∈ es25, e1.2.2 = e2.2.2 → e1 = e2 := by rw [he26]; exact zipB_uniq hb23.1
  have hx34 : ∀ k r, lkF [(⟨#[67, 72, 65, 82]⟩, 1, 2, none), (⟨#[66, 73, 84]⟩, 1, 2, none)] k = some r → ∃ e ∈ es25, e.1 = .str k := by
    intro k r hr
    have hk : (AV.str k) ∈ ([(AV.str ⟨#[67, 72, 65, 82]⟩, AV.int .i64 4), (AV.str ⟨#[66, 73, 84]⟩, AV.int .i64 5)]).map Prod.fst := List.mem_map_of_mem (f := AV.str) (lkF_mem hr)
    obtain ⟨e, he, hek⟩ := List.mem_map.1 hk
    rw [he26, ← hek]
    exact zipB_all (by simpa using hl24) _ _ he
  have hk28 : ∀ e ∈ es25, ∃ s x, e.1 = .str s ∧ e.2.1 = .int .i64 x ∧ lkF [(⟨#[67, 72, 65, 82]⟩, 1, 2, none), (⟨#[66, 73, 84]⟩, 1, 2, none)] s = some (1, 2, none) := by
    intro e he
    rw [he26] at he
    have h1 := (zipB_mem he).1
    simp only [List.mem_cons, List.not_mem_nil, or_false, Prod.mk.injEq] at h1
    rcases h1 with ⟨h1, h2⟩ | ⟨h1, h2⟩ <;> exact ⟨_, _, h1, h2, by first | rfl | simp [lkF]⟩
  rw [← he26]
  refine wpS_loopS (ι := List Nat × List (AV × AV) × Nat) (fun _ => [(0, .map S.length g), (26, .ptr (S.length + 2) (nx + 1) 0)]) (fun s => ⟨S ++ [(g, .map s.2.1), (nx, .emap es25 cl22), (nx + 1, .iter (S.length + 1) (nx) cl22 s.1 cl22)], s.2.2⟩)
    (fun s => (es25.filter fun x => !s.1.contains x.2.2).length) (fun s => TabI [(⟨#[67, 72, 65, 82]⟩, 1, 2, none), (⟨#[66, 73, 84]⟩, 1, 2, none)] ((⟨#[66, 79, 79, 76]⟩, 3, 3, some ((114, []), (115, []))) :: ((⟨#[83, 84, 82, 73, 78, 71]⟩, 1, 1, some ((101, []), (113, []))) :: ((⟨#[82, 69, 86, 69, 82, 83, 69]⟩, 1, 1, some ((101, []), (111, []))) :: ((⟨#[67, 79, 80, 89]⟩, 2, 2, some ((106, []), (110, []))) :: ((⟨#[82, 69, 80, 69, 65, 84]⟩, 2, 2, some ((106, []), (108, []))) :: ((⟨#[84, 82, 65, 78, 83, 76, 65, 84, 69]⟩, 3, 3, some ((102, []), (103, []))) :: (l))))))) es25 s.1 s.2.1) ([], L16, nx + 2) (tabI_start _ _ t18) (Sim.of_le (Env.le_of (by simp)) (Mem.le_of rfl (by simp [take_part]))) ?_
  rintro ⟨seen29, L30, n31⟩ t32
  simp only at t32
  simp [ha27]
  refine next_split2 (fun hd => ?_) (fun e he hp => ?_)
  rotate_left
  · obtain ⟨s, x, hs, hx, hr⟩ := hk28 e he
    have hf := find_born2 he hu33
    obtain ⟨L', u', t'⟩ := tabI_step (e := e) 118 [.ptr (S.length + 3) (n31) 0] 121 [] t32 (fun e1 h1 h2 => hu33 e1 h1 e he h2) hs hr (.inl rfl)
    simp only [rowA] at u'
    
    have one : Value.nilFunc.oneCell' = true := rfl
    simp [hf, hs, hx, isKey, u', one]
    exact ⟨seen29 ++ [e.2.2], L', t', n31 + 1, by simpa using unseen_less he (by simpa using hp), Sim.of_le (Env.le_of (by simp)) (Mem.le_of rfl (by simp [take_part]))⟩
  have t35 := tabI_done t32 (fun e he => by simpa using hd e he) hx34
  clear t32
  have m36 : updA (.str ⟨#[72, 73, 71, 72]⟩) (.fn 123 []) [] = some [(.str ⟨#[72, 73, 71, 72]⟩, .fn 123 [])] := upd_lit (ss := []) (by decide)
  have m37 : updA (.str ⟨#[76, 79, 87]⟩) (.fn 124 []) [(.str ⟨#[72, 73, 71, 72]⟩, .fn 123 [])] = some [(.str ⟨#[72, 73, 71, 72]⟩, .fn 123 []), (.str ⟨#[76, 79, 87]⟩, .fn 124 [])] := upd_lit (ss := [(⟨#[72, 73, 71, 72]⟩, .fn 123 [])]) (by decide)
  simp [isKey, m36, m37]
  intro bs38 cl39 hb40 hl41
  obtain ⟨es42, he43⟩ : ∃ es, es = zipB [(AV.str ⟨#[72, 73, 71, 72]⟩, AV.fn 123 []), (AV.str ⟨#[76, 79, 87]⟩, AV.fn 124 [])] bs38 := ⟨_, rfl⟩
  have ha44 : es42.all (fun e => e.2.2 < cl39) = true := by rw [he43]; exact born_all hb40
  have hu50 : ∀ e1 ∈ es42, ∀ e2 ∈ es42, e1.2.2 = e2.2.2 → e1 = e2 := by rw [he43]; exact zipB_uniq hb40.1
  have hx51 : ∀ k r, lkF [(⟨#[72, 73, 71, 72]⟩, 1, 1, none), (⟨#[76, 79, 87]⟩, 1, 1, none)] k = some r → ∃ e ∈ es42, e.1 = .str k := by
    intro k r hr
    have hk : (AV.str k) ∈ ([(AV.str ⟨#[72, 73, 71, 72]⟩, AV.fn 123 []), (AV.str ⟨#[76, 79, 87]⟩, AV.fn 124 [])]).map Prod.fst := List.mem_map_of_mem (f := AV.str) (lkF_mem hr)
    obtain ⟨e, he, hek⟩ := List.mem_map.1 hk
    rw [he43, ← hek]
    exact zipB_all (by simpa using hl41) _ _ he
  have hk45 : ∀ e ∈ es42, ∃ s x, e.1 = .str s ∧ e.2.1 = .fn x [] ∧ lkF [(⟨#[72, 73, 71, 72]⟩, 1, 1, none), (⟨#[76, 79, 87]⟩, 1, 1, none)] s = some (1, 1, none) := by
    intro e he
    rw [he43] at he
    have h1 := (zipB_mem he).1
    simp only [List.mem_cons, List.not_mem_nil, or_false, Prod.mk.injEq] at h1
    rcases h1 with ⟨h1, h2⟩ | ⟨h1, h2⟩ <;> exact ⟨_, _, h1, h2, by first | rfl | simp [lkF]⟩
  rw [← he43]
  refine wpS_loopS (ι := List Nat × List (AV × AV) × Nat) (fun _ => [(0, .map S.length g), (38, .ptr (S.length + 4) (n31 + 1) 0)]) (fun s => ⟨S ++ [(g, .map s.2.1), (nx, .emap es25 cl22), (nx + 1, .iter (S.length + 1) (nx) cl22 seen29 cl22), (n31, .emap es42 cl39), (n31 + 1, .iter (S.length + 3) (n31) cl39 s.1 cl39)], s.2.2⟩)
    (fun s => (es42.filter fun x => !s.1.contains x.2.2).length) (fun s => TabI [(⟨#[72, 73, 71, 72]⟩, 1, 1, none), (⟨#[76, 79, 87]⟩, 1, 1, none)] ([(⟨#[67, 72, 65, 82]⟩, 1, 2, none), (⟨#[66, 73, 84]⟩, 1, 2, none)] ++ ((⟨#[66, 79, 79, 76]⟩, 3, 3, some ((114, []), (115, []))) :: ((⟨#[83, 84, 82, 73, 78, 71]⟩, 1, 1, some ((101, []), (113, []))) :: ((⟨#[82, 69, 86, 69, 82, 83, 69]⟩, 1, 1, some ((101, []), (111, []))) :: ((⟨#[67, 79, 80, 89]⟩, 2, 2, some ((106, []), (110, []))) :: ((⟨#[82, 69, 80, 69, 65, 84]⟩, 2, 2, some ((106, []), (108, []))) :: ((⟨#[84, 82, 65, 78, 83, 76, 65, 84, 69]⟩, 3, 3, some ((102, []), (103, []))) :: (l)))))))) es42 s.1 s.2.1) ([], L30, n31 + 2) (tabI_start _ _ t35) (Sim.of_le (Env.le_of (by simp)) (Mem.le_of rfl (by simp [take_part]))) ?_
  rintro ⟨seen46, L47, n48⟩ t49
  simp only at t49
  simp [ha44]
  refine next_split2 (fun hd => ?_) (fun e he hp => ?_)
  rotate_left
  · obtain ⟨s, x, hs, hx, hr⟩ := hk45 e he
    have hf := find_born2 he hu50
    obtain ⟨L', u', t'⟩ := tabI_step (e := e) 125 [] 126 [.ptr (S.length + 5) (n48) 0] t49 (fun e1 h1 h2 => hu50 e1 h1 e he h2) hs hr (.inl rfl)
    simp only [rowA] at u'
    
    have one : Value.nilFunc.oneCell' = true := rfl
    simp [hf, hs, hx, isKey, u', one]
    exact ⟨seen46 ++ [e.2.2], L', t', n48 + 1, by simpa using unseen_less he (by simpa using hp), Sim.of_le (Env.le_of (by simp)) (Mem.le_of rfl (by simp [take_part]))⟩
  have t52 := tabI_done t49 (fun e he => by simpa using hd e he) hx51
  clear t49
  simp [cr46]
  exact ⟨⟨S ++ [(g, .map L47)], _⟩, Mem.le_of rfl (by simp [take_part]), _, ⟨_, rfl⟩, t52⟩

end Go.Pm
