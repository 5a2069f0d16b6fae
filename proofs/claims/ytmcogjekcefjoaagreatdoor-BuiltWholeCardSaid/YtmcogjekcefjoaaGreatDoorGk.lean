/- BkM1: the table of built-in functions: maps with texts as keys. -/
import Derived.Test.YtmcogjekcefjoaaGreatDoorGj
import Derived.Test.YtmcogjekcefjoaaGreatDoorPmU
namespace Go.Pm
open Go Go.Proofs
attribute [-simp] List.getElem?_map
attribute [simp] nilCheckA postA_norm

theorem beqB_t (a : ByteArray) : (a == a) = true := by
  exact (beq_bytes a a).2 rfl
theorem beqB_f {a b : ByteArray} (h : a ≠ b) : (a == b) = false := by
  cases hb : a == b with
  | false => rfl
  | true => exact absurd ((beq_bytes a b).1 hb) h

/-- MOD. -/
def nameM : ByteArray := ⟨#[77, 79, 68]⟩
def TabK (L : List (AV × AV)) : Prop := ∀ e ∈ L, ∃ s, e.1 = .str s
def TabM (L : List (AV × AV)) : Prop := TabK L ∧ findA (.str nameM) L = some (some (.agg rowM))

theorem upd_tab (k : ByteArray) (v : AV) : ∀ {L : List (AV × AV)}, TabK L → ∃ L', updA (.str k) v L = some L' ∧ TabK L' ∧ findA (.str k) L' = some (some v) ∧ ∀ k', k' ≠ k → findA (.str k') L' = findA (.str k') L
  | [], _ => ⟨[(.str k, v)], rfl, fun e he => by rw [List.mem_singleton.1 he]; exact ⟨k, rfl⟩, by simp [findA, keyEq, beqB_t], fun k' hk => by simp [findA, keyEq, beqB_f hk]⟩
  | (a, b) :: L, h => by
    obtain ⟨s, hs⟩ := h (a, b) (by simp)
    simp only at hs
    subst hs
    obtain ⟨L', h1, h2, h3, h4⟩ := upd_tab k v (L := L) fun e he => h e (by simp [he])
    by_cases hk : k = s
    · subst hk
      refine ⟨(.str k, v) :: L, by simp [updA, keyEq, beqB_t], fun e he => ?_, by simp [findA, keyEq, beqB_t], fun k' hk' => by simp [findA, keyEq, beqB_f hk']⟩
      rcases List.mem_cons.1 he with rfl | he
      · exact ⟨k, rfl⟩
      · exact h e (by simp [he])
    · refine ⟨(.str s, b) :: L', by simp [updA, keyEq, beqB_f hk, h1], fun e he => ?_, by simp [findA, keyEq, beqB_f hk, h3], fun k' hk' => ?_⟩
      · rcases List.mem_cons.1 he with rfl | he
        · exact ⟨s, rfl⟩
        · exact h2 e he
      · by_cases h5 : k' = s
        · subst h5; simp [findA, keyEq, beqB_t]
        · simp [findA, keyEq, beqB_f h5, h4 k' hk']

theorem take_full {α : Type} {S A : List α} {n : Nat} (h : A.length ≤ n) : (S ++ A).take (S.length + n) = S ++ A := List.take_of_length_le (by rw [List.length_append]; omega)

theorem take_part {α : Type} (S A : List α) (n : Nat) : (S ++ A).take (S.length + n) = S ++ A.take n := by
  induction S with
  | nil => simp
  | cons x S ih => rw [List.length_cons, Nat.add_right_comm, List.cons_append, List.take_succ_cons, ih]; rfl

theorem next_split {es : List (AV × AV × Nat)} {p p' : AV × AV × Nat → Bool} {f : AV × AV × Nat → AV × Mem} {m : Mem} {Q : AV → Mem → Prop} (h0 : Q (.tuple [.bool false]) m) (h1 : ∀ e ∈ es, p' e = true → Q (f e).1 (f e).2) :
    AllN (if (es.filter p).isEmpty then [(.tuple [.bool false], m)] else (es.filter p').map f) Q := by
  split
  · exact AllN_iff.2 fun v m' hm => by
      rcases List.mem_singleton.1 hm with h
      injection h with h2 h3
      subst h2; subst h3; exact h0
  · refine AllN_iff.2 fun v m' hm => ?_
    obtain ⟨e, he, hf⟩ := List.mem_map.1 hm
    obtain ⟨he1, he2⟩ := List.mem_filter.1 he
    have := h1 e he1 he2
    rw [hf] at this
    exact this

/-- What is not seen yet grows less. -/
theorem unseen_less {es : List (AV × AV × Nat)} {seen : List Nat} {e : AV × AV × Nat} (he : e ∈ es) (hs : (!seen.contains e.2.2) = true) :
    (es.filter fun x => !(seen ++ [e.2.2]).contains x.2.2).length < (es.filter fun x => !seen.contains x.2.2).length := by
  induction es with
  | nil => cases he
  | cons x es ih =>
    have mono : ∀ l : List (AV × AV × Nat), (l.filter fun x => !(seen ++ [e.2.2]).contains x.2.2).length ≤ (l.filter fun x => !seen.contains x.2.2).length := by
      intro l
      induction l with
      | nil => exact Nat.le_refl _
      | cons y l ihl =>
        simp only [List.filter_cons]
        by_cases h1 : (!seen.contains y.2.2) = true
        · rw [if_pos h1]
          split <;> simp only [List.length_cons] <;> omega
        · have h2 : (!(seen ++ [e.2.2]).contains y.2.2) = false := by
            simp at h1 ⊢
            exact fun h => absurd h1 h
          rw [h2, if_neg h1]
          simpa using ihl
    rcases List.mem_cons.1 he with rfl | he
    · have h2 : (!(seen ++ [e.2.2]).contains e.2.2) = false := by simp
      simp only [List.filter_cons, h2, hs, if_true, List.length_cons]
      have := mono es
      simp only [Bool.false_eq_true, if_false]
      omega
    · have := ih he
      simp only [List.filter_cons]
      by_cases h1 : (!seen.contains x.2.2) = true
      · rw [if_pos h1]
        split <;> simp only [List.length_cons] <;> omega
      · have h2 : (!(seen ++ [e.2.2]).contains x.2.2) = false := by
          simp at h1 ⊢
          exact fun h => absurd h1 h
        rw [h2, if_neg h1]
        simpa using this

/-- What is found by its time is one of the entries. -/
theorem find_born {es : List (AV × AV × Nat)} {e : AV × AV × Nat} (he : e ∈ es) : ∃ e', e' ∈ es ∧ es.find? (fun x => x.2.2 == e.2.2) = some e' := by
  cases h : es.find? (fun x => x.2.2 == e.2.2) with
  | none =>
    have := List.find?_eq_none.1 h e he
    simp at this
  | some e' => exact ⟨e', List.mem_of_find?_eq_some h, rfl⟩

theorem zipB_mem : ∀ {kv : List (AV × AV)} {bs : List Nat} {e : AV × AV × Nat}, e ∈ zipB kv bs → (e.1, e.2.1) ∈ kv ∧ e.2.2 ∈ bs
  | [], _, _, h => by simp [zipB] at h
  | _ :: _, [], _, h => by simp [zipB] at h
  | (k, v) :: kv, b :: bs, e, h => by
    simp only [zipB] at h
    rcases List.mem_cons.1 h with rfl | h
    · simp
    · obtain ⟨h1, h2⟩ := zipB_mem h
      exact ⟨by simp [h1], by simp [h2]⟩
theorem born_all {kv : List (AV × AV)} {bs : List Nat} {clock : Nat} (h : BornOk bs clock) : (zipB kv bs).all (fun e => e.2.2 < clock) = true :=
  List.all_eq_true.2 fun e he => decide_eq_true (h.2 _ (zipB_mem he).2)

/-- A text that is no key yet. -/
theorem upd_lit {k : ByteArray} {v : AV} : ∀ {ss : List (ByteArray × AV)}, (ss.all fun x => decide (k ≠ x.1)) = true → updA (.str k) v (ss.map fun x => (AV.str x.1, x.2)) = some ((ss.map fun x => (AV.str x.1, x.2)) ++ [(.str k, v)])
  | [], _ => rfl
  | (s, b) :: ss, h => by
    simp only [List.all_cons, Bool.and_eq_true, decide_eq_true_eq] at h
    have ih := upd_lit (k := k) (v := v) (ss := ss) h.2
    simp only [List.map_cons, updA, keyEq, beqB_f h.1, ih, Option.map_some, List.cons_append]
end Go.Pm

/- BkM2: contracts: the table of built-in functions: numeric, textual, changing. Printed by gentab.py. -/
namespace Go.Pm
open Go Go.Proofs
attribute [-simp] List.getElem?_map
attribute [simp] nilCheckA postA_norm

def rowA (a b : Int) (f g : AV) : AV := .agg [.int .i64 a, .int .i64 b, f, g]

set_option maxHeartbeats 8000000 in
theorem call44 {S : List (Nat × AObj)} {g nx : Nat} {L : List (AV × AV)} (hL : TabK L) :
    ACalls Bk.pg 44 [.map S.length g] ⟨S ++ [(g, .map L)], nx⟩ fun out m' => out = .ret (.tuple []) ∧ ∃ L' nx', m' = ⟨S ++ [(g, .map L')], nx'⟩ ∧ TabM L' := by
  refine ACalls.forget (ok44.acalls (by simp) ?_)
  obtain ⟨L1, u2, t3, f4, g5⟩ := upd_tab ⟨#[65, 66, 83]⟩ (rowA 1 1 (.fn 61 []) (.fn 62 [])) hL
  simp only [rowA] at u2
  obtain ⟨L6, u7, t8, f9, g10⟩ := upd_tab ⟨#[83, 73, 71, 78]⟩ (rowA 1 1 (.fn 65 []) (.fn 68 [])) t3
  simp only [rowA] at u7
  have m11 : updA (.str ⟨#[70, 76, 79, 79, 82]⟩) (.int .i64 (-1)) [] = some [(.str ⟨#[70, 76, 79, 79, 82]⟩, .int .i64 (-1))] := upd_lit (ss := []) (by decide)
  have m12 : updA (.str ⟨#[67, 69, 73, 76]⟩) (.int .i64 1) [(.str ⟨#[70, 76, 79, 79, 82]⟩, .int .i64 (-1))] = some [(.str ⟨#[70, 76, 79, 79, 82]⟩, .int .i64 (-1)), (.str ⟨#[67, 69, 73, 76]⟩, .int .i64 1)] := upd_lit (ss := [(⟨#[70, 76, 79, 79, 82]⟩, .int .i64 (-1))]) (by decide)
  have m13 : updA (.str ⟨#[84, 82, 85, 78, 67]⟩) (.int .i64 0) [(.str ⟨#[70, 76, 79, 79, 82]⟩, .int .i64 (-1)), (.str ⟨#[67, 69, 73, 76]⟩, .int .i64 1)] = some [(.str ⟨#[70, 76, 79, 79, 82]⟩, .int .i64 (-1)), (.str ⟨#[67, 69, 73, 76]⟩, .int .i64 1), (.str ⟨#[84, 82, 85, 78, 67]⟩, .int .i64 0)] := upd_lit (ss := [(⟨#[70, 76, 79, 79, 82]⟩, .int .i64 (-1)), (⟨#[67, 69, 73, 76]⟩, .int .i64 1)]) (by decide)
  simp [c44, isKey, u2, u7, m11, m12, m13]
  intro bs14 cl15 hb16 hl17
  obtain ⟨es18, he19⟩ : ∃ es, es = zipB [(AV.str ⟨#[70, 76, 79, 79, 82]⟩, AV.int .i64 (-1)), (AV.str ⟨#[67, 69, 73, 76]⟩, AV.int .i64 1), (AV.str ⟨#[84, 82, 85, 78, 67]⟩, AV.int .i64 0)] bs14 := ⟨_, rfl⟩
  have ha20 : es18.all (fun e => e.2.2 < cl15) = true := by rw [he19]; exact born_all hb16
  have hk21 : ∀ e ∈ es18, ∃ s x, e.1 = .str s ∧ e.2.1 = .int .i64 x ∧ s ≠ nameM := by
    intro e he
    rw [he19] at he
    have h1 := (zipB_mem he).1
    simp only [List.mem_cons, List.not_mem_nil, or_false, Prod.mk.injEq] at h1
    rcases h1 with ⟨h1, h2⟩ | ⟨h1, h2⟩ | ⟨h1, h2⟩ <;> exact ⟨_, _, h1, h2, by decide⟩
  rw [← he19]
  refine wpS_loopS (ι := List Nat × List (AV × AV) × Nat) (fun _ => [(0, .map S.length g), (17, .ptr (S.length + 2) (nx + 1) 0)]) (fun s => ⟨S ++ [(g, .map s.2.1), (nx, .emap es18 cl15), (nx + 1, .iter (S.length + 1) (nx) cl15 s.1 cl15)], s.2.2⟩)
    (fun s => (es18.filter fun x => !s.1.contains x.2.2).length) (fun s => TabK s.2.1) ([], L6, nx + 2) t8 (Sim.of_le (Env.le_of (by simp)) (Mem.le_of rfl (by simp [take_part]))) ?_
  rintro ⟨seen22, L23, n24⟩ t25
  simp only at t25
  simp [ha20]
  refine next_split ?_ (fun e he hp => ?_)
  rotate_left
  · obtain ⟨e', he', hf⟩ := find_born he
    obtain ⟨s, x, hs, hx, hne⟩ := hk21 e' he'
    obtain ⟨L', u', t', f', g'⟩ := upd_tab s (rowA 1 1 (.fn 70 []) (.fn 71 [.ptr (S.length + 3) (n24) 0])) t25
    simp only [rowA] at u'
    
    have one : Value.nilFunc.oneCell' = true := rfl
    simp [hf, hs, hx, isKey, u', one]
    exact ⟨seen22 ++ [e.2.2], L', t', n24 + 1, by simpa using unseen_less he (by simpa using hp), Sim.of_le (Env.le_of (by simp)) (Mem.le_of rfl (by simp [take_part]))⟩
  obtain ⟨L26, u27, t28, f29, g30⟩ := upd_tab ⟨#[82, 79, 85, 78, 68]⟩ (rowA 2 2 (.fn 73 []) (.fn 74 [])) t25
  simp only [rowA] at u27
  obtain ⟨L31, u32, t33, f34, g35⟩ := upd_tab ⟨#[77, 79, 68]⟩ (rowA 2 2 (.fn 75 []) (.fn 76 [])) t28
  simp only [rowA] at u32
  have t36 : TabM L31 := ⟨t33, f34⟩
  have m37 : updA (.str ⟨#[77, 65, 88]⟩) (.int .i64 1) [] = some [(.str ⟨#[77, 65, 88]⟩, .int .i64 1)] := upd_lit (ss := []) (by decide)
  have m38 : updA (.str ⟨#[77, 73, 78]⟩) (.int .i64 (-1)) [(.str ⟨#[77, 65, 88]⟩, .int .i64 1)] = some [(.str ⟨#[77, 65, 88]⟩, .int .i64 1), (.str ⟨#[77, 73, 78]⟩, .int .i64 (-1))] := upd_lit (ss := [(⟨#[77, 65, 88]⟩, .int .i64 1)]) (by decide)
  simp [isKey, u27, u32, m37, m38]
  intro bs39 cl40 hb41 hl42
  obtain ⟨es43, he44⟩ : ∃ es, es = zipB [(AV.str ⟨#[77, 65, 88]⟩, AV.int .i64 1), (AV.str ⟨#[77, 73, 78]⟩, AV.int .i64 (-1))] bs39 := ⟨_, rfl⟩
  have ha45 : es43.all (fun e => e.2.2 < cl40) = true := by rw [he44]; exact born_all hb41
  have hk46 : ∀ e ∈ es43, ∃ s x, e.1 = .str s ∧ e.2.1 = .int .i64 x ∧ s ≠ nameM := by
    intro e he
    rw [he44] at he
    have h1 := (zipB_mem he).1
    simp only [List.mem_cons, List.not_mem_nil, or_false, Prod.mk.injEq] at h1
    rcases h1 with ⟨h1, h2⟩ | ⟨h1, h2⟩ <;> exact ⟨_, _, h1, h2, by decide⟩
  rw [← he44]
  refine wpS_loopS (ι := List Nat × List (AV × AV) × Nat) (fun _ => [(0, .map S.length g), (33, .ptr (S.length + 4) (n24 + 1) 0)]) (fun s => ⟨S ++ [(g, .map s.2.1), (nx, .emap es18 cl15), (nx + 1, .iter (S.length + 1) (nx) cl15 seen22 cl15), (n24, .emap es43 cl40), (n24 + 1, .iter (S.length + 3) (n24) cl40 s.1 cl40)], s.2.2⟩)
    (fun s => (es43.filter fun x => !s.1.contains x.2.2).length) (fun s => TabM s.2.1) ([], L31, n24 + 2) t36 (Sim.of_le (Env.le_of (by simp)) (Mem.le_of rfl (by simp [take_part]))) ?_
  rintro ⟨seen47, L48, n49⟩ t50
  simp only at t50
  simp [ha45]
  refine next_split ?_ (fun e he hp => ?_)
  rotate_left
  · obtain ⟨e', he', hf⟩ := find_born he
    obtain ⟨s, x, hs, hx, hne⟩ := hk46 e' he'
    obtain ⟨L', u', t', f', g'⟩ := upd_tab s (rowA 1 20 (.fn 75 []) (.fn 77 [.ptr (S.length + 5) (n49) 0])) t50.1
    simp only [rowA] at u'
    have t'' : TabM L' := ⟨t', by rw [g' _ (Ne.symm hne)]; exact t50.2⟩
    
    have one : Value.nilFunc.oneCell' = true := rfl
    simp [hf, hs, hx, isKey, u', one]
    exact ⟨seen47 ++ [e.2.2], L', t'', n49 + 1, by simpa using unseen_less he (by simpa using hp), Sim.of_le (Env.le_of (by simp)) (Mem.le_of rfl (by simp [take_part]))⟩
  have m51 : updA (.str ⟨#[65, 68, 68]⟩) (.fn 79 []) [] = some [(.str ⟨#[65, 68, 68]⟩, .fn 79 [])] := upd_lit (ss := []) (by decide)
  have m52 : updA (.str ⟨#[83, 85, 66, 84, 82, 65, 67, 84]⟩) (.fn 80 []) [(.str ⟨#[65, 68, 68]⟩, .fn 79 [])] = some [(.str ⟨#[65, 68, 68]⟩, .fn 79 []), (.str ⟨#[83, 85, 66, 84, 82, 65, 67, 84]⟩, .fn 80 [])] := upd_lit (ss := [(⟨#[65, 68, 68]⟩, .fn 79 [])]) (by decide)
  have m53 : updA (.str ⟨#[77, 85, 76, 84, 73, 80, 76, 89]⟩) (.fn 81 []) [(.str ⟨#[65, 68, 68]⟩, .fn 79 []), (.str ⟨#[83, 85, 66, 84, 82, 65, 67, 84]⟩, .fn 80 [])] = some [(.str ⟨#[65, 68, 68]⟩, .fn 79 []), (.str ⟨#[83, 85, 66, 84, 82, 65, 67, 84]⟩, .fn 80 []), (.str ⟨#[77, 85, 76, 84, 73, 80, 76, 89]⟩, .fn 81 [])] := upd_lit (ss := [(⟨#[65, 68, 68]⟩, .fn 79 []), (⟨#[83, 85, 66, 84, 82, 65, 67, 84]⟩, .fn 80 [])]) (by decide)
  have m54 : updA (.str ⟨#[68, 73, 86, 73, 68, 69]⟩) (.fn 82 []) [(.str ⟨#[65, 68, 68]⟩, .fn 79 []), (.str ⟨#[83, 85, 66, 84, 82, 65, 67, 84]⟩, .fn 80 []), (.str ⟨#[77, 85, 76, 84, 73, 80, 76, 89]⟩, .fn 81 [])] = some [(.str ⟨#[65, 68, 68]⟩, .fn 79 []), (.str ⟨#[83, 85, 66, 84, 82, 65, 67, 84]⟩, .fn 80 []), (.str ⟨#[77, 85, 76, 84, 73, 80, 76, 89]⟩, .fn 81 []), (.str ⟨#[68, 73, 86, 73, 68, 69]⟩, .fn 82 [])] := upd_lit (ss := [(⟨#[65, 68, 68]⟩, .fn 79 []), (⟨#[83, 85, 66, 84, 82, 65, 67, 84]⟩, .fn 80 []), (⟨#[77, 85, 76, 84, 73, 80, 76, 89]⟩, .fn 81 [])]) (by decide)
  have one : Value.nilFunc.oneCell' = true := rfl
  simp [isKey, m51, m52, m53, m54]
  intro bs55 cl56 hb57 hl58
  obtain ⟨es59, he60⟩ : ∃ es, es = zipB [(AV.str ⟨#[65, 68, 68]⟩, AV.fn 79 []), (AV.str ⟨#[83, 85, 66, 84, 82, 65, 67, 84]⟩, AV.fn 80 []), (AV.str ⟨#[77, 85, 76, 84, 73, 80, 76, 89]⟩, AV.fn 81 []), (AV.str ⟨#[68, 73, 86, 73, 68, 69]⟩, AV.fn 82 [])] bs55 := ⟨_, rfl⟩
  have ha61 : es59.all (fun e => e.2.2 < cl56) = true := by rw [he60]; exact born_all hb57
  have hk62 : ∀ e ∈ es59, ∃ s x, e.1 = .str s ∧ e.2.1 = .fn x [] ∧ s ≠ nameM := by
    intro e he
    rw [he60] at he
    have h1 := (zipB_mem he).1
    simp only [List.mem_cons, List.not_mem_nil, or_false, Prod.mk.injEq] at h1
    rcases h1 with ⟨h1, h2⟩ | ⟨h1, h2⟩ | ⟨h1, h2⟩ | ⟨h1, h2⟩ <;> exact ⟨_, _, h1, h2, by decide⟩
  rw [← he60]
  refine wpS_loopS (ι := List Nat × List (AV × AV) × Nat) (fun _ => [(0, .map S.length g), (45, .ptr (S.length + 6) (n49 + 1) 0)]) (fun s => ⟨S ++ [(g, .map s.2.1), (nx, .emap es18 cl15), (nx + 1, .iter (S.length + 1) (nx) cl15 seen22 cl15), (n24, .emap es43 cl40), (n24 + 1, .iter (S.length + 3) (n24) cl40 seen47 cl40), (n49, .emap es59 cl56), (n49 + 1, .iter (S.length + 5) (n49) cl56 s.1 cl56)], s.2.2⟩)
    (fun s => (es59.filter fun x => !s.1.contains x.2.2).length) (fun s => TabM s.2.1) ([], L48, n49 + 2) t50 (Sim.of_le (Env.le_of (by simp)) (Mem.le_of rfl (by simp [take_part]))) ?_
  rintro ⟨seen63, L64, n65⟩ t66
  simp only at t66
  simp [ha61]
  refine next_split ?_ (fun e he hp => ?_)
  rotate_left
  · obtain ⟨e', he', hf⟩ := find_born he
    obtain ⟨s, x, hs, hx, hne⟩ := hk62 e' he'
    obtain ⟨L', u', t', f', g'⟩ := upd_tab s (rowA 3 4 (.fn 83 []) (.fn 84 [.ptr (S.length + 7) (n65) 0])) t66.1
    simp only [rowA] at u'
    have t'' : TabM L' := ⟨t', by rw [g' _ (Ne.symm hne)]; exact t66.2⟩
    
    have one : Value.nilFunc.oneCell' = true := rfl
    simp [hf, hs, hx, isKey, u', one]
    exact ⟨seen63 ++ [e.2.2], L', t'', n65 + 1, by simpa using unseen_less he (by simpa using hp), Sim.of_le (Env.le_of (by simp)) (Mem.le_of rfl (by simp [take_part]))⟩
  have m67 : updA (.str ⟨#[70, 73, 88, 69, 68]⟩) (.int .i64 0) [] = some [(.str ⟨#[70, 73, 88, 69, 68]⟩, .int .i64 0)] := upd_lit (ss := []) (by decide)
  have m68 : updA (.str ⟨#[66, 73, 78, 65, 82, 89]⟩) (.int .i64 1) [(.str ⟨#[70, 73, 88, 69, 68]⟩, .int .i64 0)] = some [(.str ⟨#[70, 73, 88, 69, 68]⟩, .int .i64 0), (.str ⟨#[66, 73, 78, 65, 82, 89]⟩, .int .i64 1)] := upd_lit (ss := [(⟨#[70, 73, 88, 69, 68]⟩, .int .i64 0)]) (by decide)
  have m69 : updA (.str ⟨#[68, 69, 67, 73, 77, 65, 76]⟩) (.int .i64 2) [(.str ⟨#[70, 73, 88, 69, 68]⟩, .int .i64 0), (.str ⟨#[66, 73, 78, 65, 82, 89]⟩, .int .i64 1)] = some [(.str ⟨#[70, 73, 88, 69, 68]⟩, .int .i64 0), (.str ⟨#[66, 73, 78, 65, 82, 89]⟩, .int .i64 1), (.str ⟨#[68, 69, 67, 73, 77, 65, 76]⟩, .int .i64 2)] := upd_lit (ss := [(⟨#[70, 73, 88, 69, 68]⟩, .int .i64 0), (⟨#[66, 73, 78, 65, 82, 89]⟩, .int .i64 1)]) (by decide)
  have m70 : updA (.str ⟨#[70, 76, 79, 65, 84]⟩) (.int .i64 3) [(.str ⟨#[70, 73, 88, 69, 68]⟩, .int .i64 0), (.str ⟨#[66, 73, 78, 65, 82, 89]⟩, .int .i64 1), (.str ⟨#[68, 69, 67, 73, 77, 65, 76]⟩, .int .i64 2)] = some [(.str ⟨#[70, 73, 88, 69, 68]⟩, .int .i64 0), (.str ⟨#[66, 73, 78, 65, 82, 89]⟩, .int .i64 1), (.str ⟨#[68, 69, 67, 73, 77, 65, 76]⟩, .int .i64 2), (.str ⟨#[70, 76, 79, 65, 84]⟩, .int .i64 3)] := upd_lit (ss := [(⟨#[70, 73, 88, 69, 68]⟩, .int .i64 0), (⟨#[66, 73, 78, 65, 82, 89]⟩, .int .i64 1), (⟨#[68, 69, 67, 73, 77, 65, 76]⟩, .int .i64 2)]) (by decide)
  simp [isKey, m67, m68, m69, m70]
  intro bs71 cl72 hb73 hl74
  obtain ⟨es75, he76⟩ : ∃ es, es = zipB [(AV.str ⟨#[70, 73, 88, 69, 68]⟩, AV.int .i64 0), (AV.str ⟨#[66, 73, 78, 65, 82, 89]⟩, AV.int .i64 1), (AV.str ⟨#[68, 69, 67, 73, 77, 65, 76]⟩, AV.int .i64 2), (AV.str ⟨#[70, 76, 79, 65, 84]⟩, AV.int .i64 3)] bs71 := ⟨_, rfl⟩
  have ha77 : es75.all (fun e => e.2.2 < cl72) = true := by rw [he76]; exact born_all hb73
  have hk78 : ∀ e ∈ es75, ∃ s x, e.1 = .str s ∧ e.2.1 = .int .i64 x ∧ s ≠ nameM := by
    intro e he
    rw [he76] at he
    have h1 := (zipB_mem he).1
    simp only [List.mem_cons, List.not_mem_nil, or_false, Prod.mk.injEq] at h1
    rcases h1 with ⟨h1, h2⟩ | ⟨h1, h2⟩ | ⟨h1, h2⟩ | ⟨h1, h2⟩ <;> exact ⟨_, _, h1, h2, by decide⟩
  rw [← he76]
  refine wpS_loopS (ι := List Nat × List (AV × AV) × Nat) (fun _ => [(0, .map S.length g), (57, .ptr (S.length + 8) (n65 + 1) 0)]) (fun s => ⟨S ++ [(g, .map s.2.1), (nx, .emap es18 cl15), (nx + 1, .iter (S.length + 1) (nx) cl15 seen22 cl15), (n24, .emap es43 cl40), (n24 + 1, .iter (S.length + 3) (n24) cl40 seen47 cl40), (n49, .emap es59 cl56), (n49 + 1, .iter (S.length + 5) (n49) cl56 seen63 cl56), (n65, .emap es75 cl72), (n65 + 1, .iter (S.length + 7) (n65) cl72 s.1 cl72)], s.2.2⟩)
    (fun s => (es75.filter fun x => !s.1.contains x.2.2).length) (fun s => TabM s.2.1) ([], L64, n65 + 2) t66 (Sim.of_le (Env.le_of (by simp)) (Mem.le_of rfl (by simp [take_part]))) ?_
  rintro ⟨seen79, L80, n81⟩ t82
  simp only at t82
  simp [ha77]
  refine next_split ?_ (fun e he hp => ?_)
  rotate_left
  · obtain ⟨e', he', hf⟩ := find_born he
    obtain ⟨s, x, hs, hx, hne⟩ := hk78 e' he'
    simp [hf, hs, hx, isKey]
    refine br_cond rfl (fun h5 => ?_) (fun h5 => ?_)
    · obtain ⟨L', u', t', f', g'⟩ := upd_tab s (rowA 1 2 (.fn 87 [.ptr (S.length + 9) (n81) 0]) (.fn 89 [])) t82.1
      simp only [rowA] at u'
      have t'' : TabM L' := ⟨t', by rw [g' _ (Ne.symm hne)]; exact t82.2⟩
      simp [isKey, u']
      exact ⟨seen79 ++ [e.2.2], L', t'', n81 + 1, by simpa using unseen_less he (by simpa using hp), Sim.of_le (Env.le_of (by simp)) (Mem.le_of rfl (by simp [take_part]))⟩
    · obtain ⟨L', u', t', f', g'⟩ := upd_tab s (rowA 1 3 (.fn 87 [.ptr (S.length + 9) (n81) 0]) (.fn 89 [])) t82.1
      simp only [rowA] at u'
      have t'' : TabM L' := ⟨t', by rw [g' _ (Ne.symm hne)]; exact t82.2⟩
      simp [isKey, u']
      exact ⟨seen79 ++ [e.2.2], L', t'', n81 + 1, by simpa using unseen_less he (by simpa using hp), Sim.of_le (Env.le_of (by simp)) (Mem.le_of rfl (by simp [take_part]))⟩
  simp [cr44]
  exact ⟨⟨S ++ [(g, .map L80)], _⟩, Mem.le_of rfl (by simp [take_part]), _, ⟨_, rfl⟩, t82⟩

set_option maxHeartbeats 8000000 in
theorem call45 {S : List (Nat × AObj)} {g nx : Nat} {L : List (AV × AV)} (hL : TabM L) :
    ACalls Bk.pg 45 [.map S.length g] ⟨S ++ [(g, .map L)], nx⟩ fun out m' => out = .ret (.tuple []) ∧ ∃ L' nx', m' = ⟨S ++ [(g, .map L')], nx'⟩ ∧ TabM L' := by
  refine ACalls.forget (ok45.acalls (by simp) ?_)
  have one : Value.nilFunc.oneCell' = true := rfl
  obtain ⟨L1, u2, t3, f4, g5⟩ := upd_tab ⟨#[76, 69, 78, 71, 84, 72]⟩ (rowA 1 1 (.fn 90 []) (.fn 94 [])) hL.1
  simp only [rowA] at u2
  have t6 : TabM L1 := ⟨t3, by rw [g5 _ (by decide)]; exact hL.2⟩
  obtain ⟨L7, u8, t9, f10, g11⟩ := upd_tab ⟨#[83, 85, 66, 83, 84, 82]⟩ (rowA 2 3 (.fn 95 []) (.fn 96 [])) t6.1
  simp only [rowA] at u8
  have t12 : TabM L7 := ⟨t9, by rw [g11 _ (by decide)]; exact t6.2⟩
  obtain ⟨L13, u14, t15, f16, g17⟩ := upd_tab ⟨#[73, 78, 68, 69, 88]⟩ (rowA 2 2 (.fn 90 []) (.fn 97 [.ptr (S.length + 1) nx 0])) t12.1
  simp only [rowA] at u14
  have t18 : TabM L13 := ⟨t15, by rw [g17 _ (by decide)]; exact t12.2⟩
  obtain ⟨L19, u20, t21, f22, g23⟩ := upd_tab ⟨#[86, 69, 82, 73, 70, 89]⟩ (rowA 2 2 (.fn 90 []) (.fn 99 [.ptr (S.length + 1) nx 0])) t18.1
  simp only [rowA] at u20
  have t24 : TabM L19 := ⟨t21, by rw [g23 _ (by decide)]; exact t18.2⟩
  simp [c45, isKey, u2, u8, u14, u20, one, cr45]
  exact ⟨⟨S ++ [(g, .map L19)], _⟩, Mem.le_of rfl (by simp [take_part]), _, ⟨_, rfl⟩, t24⟩

set_option maxHeartbeats 8000000 in
theorem call46 {S : List (Nat × AObj)} {g nx : Nat} {L : List (AV × AV)} (hL : TabM L) :
    ACalls Bk.pg 46 [.map S.length g] ⟨S ++ [(g, .map L)], nx⟩ fun out m' => out = .ret (.tuple []) ∧ ∃ L' nx', m' = ⟨S ++ [(g, .map L')], nx'⟩ ∧ TabM L' := by
  refine ACalls.forget (ok46.acalls (by simp) ?_)
  have one : Value.nilFunc.oneCell' = true := rfl
  obtain ⟨L1, u2, t3, f4, g5⟩ := upd_tab ⟨#[84, 82, 65, 78, 83, 76, 65, 84, 69]⟩ (rowA 3 3 (.fn 102 []) (.fn 103 [])) hL.1
  simp only [rowA] at u2
  have t6 : TabM L1 := ⟨t3, by rw [g5 _ (by decide)]; exact hL.2⟩
  obtain ⟨L7, u8, t9, f10, g11⟩ := upd_tab ⟨#[82, 69, 80, 69, 65, 84]⟩ (rowA 2 2 (.fn 106 []) (.fn 108 [])) t6.1
  simp only [rowA] at u8
  have t12 : TabM L7 := ⟨t9, by rw [g11 _ (by decide)]; exact t6.2⟩
  obtain ⟨L13, u14, t15, f16, g17⟩ := upd_tab ⟨#[67, 79, 80, 89]⟩ (rowA 2 2 (.fn 106 []) (.fn 110 [])) t12.1
  simp only [rowA] at u14
  have t18 : TabM L13 := ⟨t15, by rw [g17 _ (by decide)]; exact t12.2⟩
  obtain ⟨L19, u20, t21, f22, g23⟩ := upd_tab ⟨#[82, 69, 86, 69, 82, 83, 69]⟩ (rowA 1 1 (.fn 101 []) (.fn 111 [])) t18.1
  simp only [rowA] at u20
  have t24 : TabM L19 := ⟨t21, by rw [g23 _ (by decide)]; exact t18.2⟩
  obtain ⟨L25, u26, t27, f28, g29⟩ := upd_tab ⟨#[83, 84, 82, 73, 78, 71]⟩ (rowA 1 1 (.fn 101 []) (.fn 113 [])) t24.1
  simp only [rowA] at u26
  have t30 : TabM L25 := ⟨t27, by rw [g29 _ (by decide)]; exact t24.2⟩
  obtain ⟨L31, u32, t33, f34, g35⟩ := upd_tab ⟨#[66, 79, 79, 76]⟩ (rowA 3 3 (.fn 114 []) (.fn 115 [])) t30.1
  simp only [rowA] at u32
  have t36 : TabM L31 := ⟨t33, by rw [g35 _ (by decide)]; exact t30.2⟩
  have m37 : updA (.str ⟨#[67, 72, 65, 82]⟩) (.int .i64 4) [] = some [(.str ⟨#[67, 72, 65, 82]⟩, .int .i64 4)] := upd_lit (ss := []) (by decide)
  have m38 : updA (.str ⟨#[66, 73, 84]⟩) (.int .i64 5) [(.str ⟨#[67, 72, 65, 82]⟩, .int .i64 4)] = some [(.str ⟨#[67, 72, 65, 82]⟩, .int .i64 4), (.str ⟨#[66, 73, 84]⟩, .int .i64 5)] := upd_lit (ss := [(⟨#[67, 72, 65, 82]⟩, .int .i64 4)]) (by decide)
  simp [c46, isKey, u2, u8, u14, u20, u26, u32, m37, m38]
  intro bs39 cl40 hb41 hl42
  obtain ⟨es43, he44⟩ : ∃ es, es = zipB [(AV.str ⟨#[67, 72, 65, 82]⟩, AV.int .i64 4), (AV.str ⟨#[66, 73, 84]⟩, AV.int .i64 5)] bs39 := ⟨_, rfl⟩
  have ha45 : es43.all (fun e => e.2.2 < cl40) = true := by rw [he44]; exact born_all hb41
  have hk46 : ∀ e ∈ es43, ∃ s x, e.1 = .str s ∧ e.2.1 = .int .i64 x ∧ s ≠ nameM := by
    intro e he
    rw [he44] at he
    have h1 := (zipB_mem he).1
    simp only [List.mem_cons, List.not_mem_nil, or_false, Prod.mk.injEq] at h1
    rcases h1 with ⟨h1, h2⟩ | ⟨h1, h2⟩ <;> exact ⟨_, _, h1, h2, by decide⟩
  rw [← he44]
  refine wpS_loopS (ι := List Nat × List (AV × AV) × Nat) (fun _ => [(0, .map S.length g), (26, .ptr (S.length + 2) (nx + 1) 0)]) (fun s => ⟨S ++ [(g, .map s.2.1), (nx, .emap es43 cl40), (nx + 1, .iter (S.length + 1) (nx) cl40 s.1 cl40)], s.2.2⟩)
    (fun s => (es43.filter fun x => !s.1.contains x.2.2).length) (fun s => TabM s.2.1) ([], L31, nx + 2) t36 (Sim.of_le (Env.le_of (by simp)) (Mem.le_of rfl (by simp [take_part]))) ?_
  rintro ⟨seen47, L48, n49⟩ t50
  simp only at t50
  simp [ha45]
  refine next_split ?_ (fun e he hp => ?_)
  rotate_left
  · obtain ⟨e', he', hf⟩ := find_born he
    obtain ⟨s, x, hs, hx, hne⟩ := hk46 e' he'
    obtain ⟨L', u', t', f', g'⟩ := upd_tab s (rowA 1 2 (.fn 118 [.ptr (S.length + 3) (n49) 0]) (.fn 121 [])) t50.1
    simp only [rowA] at u'
    have t'' : TabM L' := ⟨t', by rw [g' _ (Ne.symm hne)]; exact t50.2⟩
    
    have one : Value.nilFunc.oneCell' = true := rfl
    simp [hf, hs, hx, isKey, u', one]
    exact ⟨seen47 ++ [e.2.2], L', t'', n49 + 1, by simpa using unseen_less he (by simpa using hp), Sim.of_le (Env.le_of (by simp)) (Mem.le_of rfl (by simp [take_part]))⟩
  have m51 : updA (.str ⟨#[72, 73, 71, 72]⟩) (.fn 123 []) [] = some [(.str ⟨#[72, 73, 71, 72]⟩, .fn 123 [])] := upd_lit (ss := []) (by decide)
  have m52 : updA (.str ⟨#[76, 79, 87]⟩) (.fn 124 []) [(.str ⟨#[72, 73, 71, 72]⟩, .fn 123 [])] = some [(.str ⟨#[72, 73, 71, 72]⟩, .fn 123 []), (.str ⟨#[76, 79, 87]⟩, .fn 124 [])] := upd_lit (ss := [(⟨#[72, 73, 71, 72]⟩, .fn 123 [])]) (by decide)
  simp [isKey, m51, m52]
  intro bs53 cl54 hb55 hl56
  obtain ⟨es57, he58⟩ : ∃ es, es = zipB [(AV.str ⟨#[72, 73, 71, 72]⟩, AV.fn 123 []), (AV.str ⟨#[76, 79, 87]⟩, AV.fn 124 [])] bs53 := ⟨_, rfl⟩
  have ha59 : es57.all (fun e => e.2.2 < cl54) = true := by rw [he58]; exact born_all hb55
  have hk60 : ∀ e ∈ es57, ∃ s x, e.1 = .str s ∧ e.2.1 = .fn x [] ∧ s ≠ nameM := by
    intro e he
    rw [he58] at he
    have h1 := (zipB_mem he).1
    simp only [List.mem_cons, List.not_mem_nil, or_false, Prod.mk.injEq] at h1
    rcases h1 with ⟨h1, h2⟩ | ⟨h1, h2⟩ <;> exact ⟨_, _, h1, h2, by decide⟩
  rw [← he58]
  refine wpS_loopS (ι := List Nat × List (AV × AV) × Nat) (fun _ => [(0, .map S.length g), (38, .ptr (S.length + 4) (n49 + 1) 0)]) (fun s => ⟨S ++ [(g, .map s.2.1), (nx, .emap es43 cl40), (nx + 1, .iter (S.length + 1) (nx) cl40 seen47 cl40), (n49, .emap es57 cl54), (n49 + 1, .iter (S.length + 3) (n49) cl54 s.1 cl54)], s.2.2⟩)
    (fun s => (es57.filter fun x => !s.1.contains x.2.2).length) (fun s => TabM s.2.1) ([], L48, n49 + 2) t50 (Sim.of_le (Env.le_of (by simp)) (Mem.le_of rfl (by simp [take_part]))) ?_
  rintro ⟨seen61, L62, n63⟩ t64
  simp only at t64
  simp [ha59]
  refine next_split ?_ (fun e he hp => ?_)
  rotate_left
  · obtain ⟨e', he', hf⟩ := find_born he
    obtain ⟨s, x, hs, hx, hne⟩ := hk60 e' he'
    obtain ⟨L', u', t', f', g'⟩ := upd_tab s (rowA 1 1 (.fn 125 []) (.fn 126 [.ptr (S.length + 5) (n63) 0])) t64.1
    simp only [rowA] at u'
    have t'' : TabM L' := ⟨t', by rw [g' _ (Ne.symm hne)]; exact t64.2⟩
    
    have one : Value.nilFunc.oneCell' = true := rfl
    simp [hf, hs, hx, isKey, u', one]
    exact ⟨seen61 ++ [e.2.2], L', t'', n63 + 1, by simpa using unseen_less he (by simpa using hp), Sim.of_le (Env.le_of (by simp)) (Mem.le_of rfl (by simp [take_part]))⟩
  simp [cr46]
  exact ⟨⟨S ++ [(g, .map L62)], _⟩, Mem.le_of rfl (by simp [take_part]), _, ⟨_, rfl⟩, t64⟩
end Go.Pm

/- BkM3: contracts: the table; numbers from 0 on. -/
namespace Go.Pm
open Go Go.Proofs
attribute [-simp] List.getElem?_map
attribute [simp] nilCheckA postA_norm

theorem call27 {S : List (Nat × AObj)} {nx : Nat} : ACalls Bk.pg 27 [] ⟨S, nx⟩ fun out m' => out = .ret (.map S.length nx) ∧ ∃ L' nx', m' = ⟨S ++ [(nx, .map L')], nx'⟩ ∧ TabM L' := by
  refine ok27.acalls (by simp) ?_
  have h0 : TabK [] := fun e he => by cases he
  simp [c27]
  refine xcall_r (call44 (S := S) (g := nx) (nx := nx + 1) h0) ?_ ?_
  · rintro v m' ⟨hv, L1, n1, rfl, h1⟩
    cases hv
    simp
    refine xcall_r (call45 (S := S) (g := nx) (nx := n1) h1) ?_ ?_
    · rintro v m' ⟨hv, L2, n2, rfl, h2⟩
      cases hv
      simp
      refine xcall_r (call46 (S := S) (g := nx) (nx := n2) h2) ?_ ?_
      · rintro v m' ⟨hv, L3, n3, rfl, h3⟩
        cases hv
        simp [cr27, postA_ret]
        exact h3
      · rintro v m' ⟨hv, _⟩
        cases hv
    · rintro v m' ⟨hv, _⟩
      cases hv
  · rintro v m' ⟨hv, _⟩
    cases hv

/-- The table, of which the row of MOD is known. -/
theorem call27P : PCalls Bk.pg 27 [] fun out => out = .ret (.kmap nameM (.agg rowM)) := by
  refine pcalls_of_acalls 1 (ACalls.keepMap (s := nameM) (v := .agg rowM) ((call27 (S := []) (nx := 0)).mono ?_))
  rintro out m' ⟨rfl, L', nx', rfl, h1, h2⟩
  exact ⟨0, 0, L', rfl, rfl, h2, _, rfl, rfl⟩

theorem call30 {n : Int} {m : Mem} : ACalls Bk.pg 30 [.int .i64 n] m fun out m' => out = .ret (.fn 47 [.ptr m.store.length m.next 0]) ∧ m' = m.new (.cells [.int .i64 n]) := by
  refine ok30.acalls (by simp) ?_
  simp [c30, cr30, postA_ret, Mem.new]

theorem call47 {pos gen p g n : Nat} {Inv : Nat → Mem → Prop} {m0 : Mem} (hn : n ≤ 1000)
    (hY : ∀ i m, i < n → Inv i m → YCalls Bk.pg pos gen [.int .i64 (i : Nat)] m fun out m' => out = .ret (.bool true) ∧ Inv (i + 1) m')
    (hc : m0.obj p g = some (.cells [.int .i64 (n : Nat)]))
    (h0 : Inv 0 m0) : ACalls Bk.pg 47 [.yield pos gen, .ptr p g 0] m0 fun out m' => out = .ret (.tuple []) ∧ Inv n m' := by
  refine ok47.acalls (by simp) ?_
  simp only [Mem.obj] at hc
  simp [c47, hc]
  refine wpS_loop (ι := Nat × Mem) (fun s => [(0, .yield pos gen), (1, .ptr p g 0), (4, .int .i64 (n : Nat)), (5, .int .i64 (s.1 : Nat))]) (fun s => s.2) (fun s => n - s.1) (fun s => s.1 ≤ n ∧ Inv s.1 s.2) (0, m0) ⟨Nat.zero_le _, h0⟩ (Env.le_of (by simp)) rfl ?_
  rintro ⟨i, m⟩ ⟨hi, hI⟩
  simp only at hi hI
  have hwi : IntKind.i64.wrap ((i : Int) + 1) = (i : Int) + 1 := wrap64 (by omega) (by omega)
  simp
  refine br_cond rfl (fun h1 => ?_) (fun h1 => ?_)
  · have hlt : i < n := by have := ltI_t.1 h1; omega
    simp
    refine ⟨pos, gen, _, ⟨⟨rfl, rfl⟩, rfl⟩, ycall_r (hY i m hlt hI) ?_ ?_⟩
    · rintro v m' ⟨hv, hI'⟩
      cases hv
      simp [hwi]
      exact ⟨i + 1, m', ⟨by omega, hI'⟩, by omega, Env.le_of (by simp), Mem.le_refl _⟩
    · rintro v m' ⟨hv, _⟩
      cases hv
  · have hk0 : i = n := by have := ltI_f.1 h1; omega
    subst hk0
    simp [cr47, postA_norm]
    exact hI
end Go.Pm

/- BkC20: contracts: what is done safely when a rest is asked for. -/
namespace Go.Pm
open Go Go.Proofs
attribute [-simp] List.getElem?_map
attribute [simp] nilCheckA postA_norm

def a26 : SC := (.ops [⟨(some 8), .plain .mv, [.tmp 38], none⟩] [])
def b26 : SC := (.block 1
     (.ops [⟨(some 39), .plain (.load false 1), [.tmp 2], none⟩,
       ⟨(some 40), .plain .mv, [.tmp 8], none⟩,
       ⟨(some 41), .plain (.indexAddr 6), [.tmp 39, .tmp 40], none⟩,
       ⟨(some 42), .plain (.load true 6), [.tmp 41], none⟩,
       ⟨(some 43), .call 31, [.tmp 42], none⟩,
       ⟨(some 44), .call 28, [.tmp 43, .lit (.int .i64 13)], none⟩] [39, 40, 41, 42, 43, 44]))
def a26b : SC := (.ops [⟨(some 9), .plain .mv, [.tmp 48], none⟩] [])
def b26b : SC := (.block 3
     (.draw (.step ⟨(some 49), .plain (.load false 1), [.tmp 1], none⟩
       (.step ⟨(some 50), .plain .mv, [.tmp 9], none⟩
       (.step ⟨(some 51), .plain (.indexAddr 4), [.tmp 49, .tmp 50], none⟩
       (.step ⟨(some 52), .plain (.load true 4), [.tmp 51], none⟩
       (.step ⟨(some 53), .call 32, [.tmp 52], none⟩
       (.step ⟨(some 54), .plain .mv, [.tmp 53], none⟩
       (.step ⟨(some 55), .plain (.load false 1), [.tmp 2], (some (54, true))⟩
       (.step ⟨(some 56), .plain .mv, [.tmp 9], (some (54, true))⟩
       (.step ⟨(some 57), .plain (.indexAddr 6), [.tmp 55, .tmp 56], (some (54, true))⟩
       (.step ⟨(some 58), .plain (.load true 6), [.tmp 57], (some (54, true))⟩
       (.step ⟨(some 59), .plain (.load false 1), [.tmp 1], (some (54, true))⟩
       (.step ⟨(some 60), .plain .mv, [.tmp 9], (some (54, true))⟩
       (.step ⟨(some 61), .plain (.indexAddr 4), [.tmp 59, .tmp 60], (some (54, true))⟩
       (.step ⟨(some 62), .plain (.load true 4), [.tmp 61], (some (54, true))⟩
       (.step ⟨(some 63), .call 33, [.tmp 58, .tmp 62], (some (54, true))⟩
       (.step ⟨(some 64), .plain .pick, [.tmp 54, .tmp 63, .lit (.bool false)], none⟩
       (.step ⟨(some 65), .call 28, [.tmp 64, .lit (.int .i64 1)], none⟩
       .done))))))))))))))))) [49, 50, 51, 52, 53, 54, 55, 56, 57, 58, 59, 60, 61, 62, 63, 64, 65]))
def e26 : Env := [(0, .ptr 0 0 0), (1, .ptr 1 1 0), (2, .ptr 2 2 0), (3, .ptr 3 3 0), (4, .ptr 5 5 0), (5, .ptr 4 4 0), (6, .ptr 7 7 0), (37, .fn 47 [.ptr 8 8 0])]
def e26b : Env := [(0, .ptr 0 0 0), (1, .ptr 1 1 0), (2, .ptr 2 2 0), (3, .ptr 3 3 0), (4, .ptr 5 5 0), (5, .ptr 4 4 0), (6, .ptr 7 7 0), (47, .fn 47 [.ptr 10 10 0])]
def ok26r : Loop → Prop := loopOk Bk.pg.toProgram Bk.imp [38] a26 b26
def ok26s : Loop → Prop := loopOk Bk.pg.toProgram Bk.imp [48] a26b b26b
/-- Memory while a rest is asked for. -/
def m26 (k p q n0 n1 p2 q2 : Int) : List (Nat × AObj) :=
  [(0, .cells [.str nameM]), (1, .cells [.list true 4 [vlN k n0 q, vlN k n1 q]]), (2, .cells [.list true 6 [tyN k p q, tyN k p q]]), (3, .cells (tyN k p2 q2)), (4, .cells (vl 0 0 0 ⟨#[]⟩)), (5, .cells (rz 0)), (6, .cells [.int .i64 0]), (7, .cells rowM), (8, .cells [.int .i64 2])]

theorem round26 {k p q n0 n1 p2 q2 : Int} {i : Nat} (h : ValidN k p q) (hi : i < 2) :
    YCalls Bk.pg 9 9 [.int .i64 (i : Nat)] ⟨m26 k p q n0 n1 p2 q2 ++ [(9, .loop .ready e26 ok26r)], 10⟩ fun out m' => out = .ret (.bool true) ∧ m' = ⟨m26 k p q n0 n1 p2 q2 ++ [(9, .loop .ready e26 ok26r)], 10⟩ := by
  refine ycalls_S (ps := [38]) (a := a26) (b := b26) (e := e26) rfl rfl ?_
  rw [show loopOk Bk.pg.toProgram Bk.imp [38] a26 b26 = ok26r from rfl]
  have c1 := call31 h.1 h.2
  have hlt : ltI (i : Int) 2 = true := ltI_t.2 (by omega)
  have ht : ([tyN k p q, tyN k p q] : List (List AV))[i]? = some (tyN k p q) := by
    have : i = 0 ∨ i = 1 := by omega
    rcases this with rfl | rfl <;> rfl
  simp only [tyN, ty] at c1 ht
  simp [a26, b26, Env.sets, e26, m26, hlt, tyN, ty, ht]
  refine xcall_p c1 (by simp) ?_
  simp
  refine xcall_p (call28 (e := 13)) (by simp) ?_
  simp
  exact ⟨rfl, _, Mem.le_refl _, rfl, rfl⟩

theorem round26b {k p q n0 n1 p2 q2 : Int} {i : Nat} (h0 : HasN k p q n0) (h1 : HasN k p q n1) (hi : i < 2) :
    YCalls Bk.pg 11 11 [.int .i64 (i : Nat)] ⟨m26 k p q n0 n1 p2 q2 ++ [(9, .hole), (10, .cells [.int .i64 2]), (11, .loop .ready e26b ok26s)], 12⟩ fun out m' => out = .ret (.bool true) ∧ m' = ⟨m26 k p q n0 n1 p2 q2 ++ [(9, .hole), (10, .cells [.int .i64 2]), (11, .loop .ready e26b ok26s)], 12⟩ := by
  refine ycalls_S (ps := [48]) (a := a26b) (b := b26b) (e := e26b) rfl rfl ?_
  rw [show loopOk Bk.pg.toProgram Bk.imp [48] a26b b26b = ok26s from rfl]
  have hn : HasN k p q (if i = 0 then n0 else n1) := by split <;> assumption
  obtain ⟨a, ha⟩ : ∃ a, a = if i = 0 then n0 else n1 := ⟨_, rfl⟩
  rw [← ha] at hn
  have c1 := call32 hn.2.1
  have c2 := call33 hn
  have hlt : ltI (i : Int) 2 = true := ltI_t.2 (by omega)
  have ht : ([tyN k p q, tyN k p q] : List (List AV))[i]? = some (tyN k p q) := by
    have : i = 0 ∨ i = 1 := by omega
    rcases this with rfl | rfl <;> rfl
  have hv : ([vlN k n0 q, vlN k n1 q] : List (List AV))[i]? = some (vlN k a q) := by
    have : i = 0 ∨ i = 1 := by omega
    rcases this with rfl | rfl <;> rw [ha] <;> rfl
  simp only [tyN, ty, vlN, vl] at c1 c2 ht hv
  simp [a26b, b26b, Env.sets, e26b, m26, hlt, tyN, ty, vlN, vl, ht, hv]
  refine xdcall_p rfl c1 (by simp) ?_
  simp [hlt, ht, hv]
  refine xdcall_p rfl c2 (by simp) ?_
  simp
  refine xdcall_p rfl (call28 (e := 1)) (by simp) ?_
  simp
  exact ⟨rfl, _, Mem.le_refl _, rfl, rfl⟩

set_option maxHeartbeats 4000000 in
theorem call26 {k n0 n1 : Int} {p q p2 q2 : Nat} (h0 : HasN k p q n0) (h1 : HasN k p q n1) (hv : ValidN k p2 q2) :
    ACalls Bk.pg 26 [.ptr 0 0 0, .ptr 1 1 0, .ptr 2 2 0, .ptr 3 3 0, .ptr 5 5 0, .ptr 4 4 0] ⟨(m26 k p q n0 n1 p2 q2).take 7, 7⟩ fun out m' => out = .ret (.tuple []) ∧
      ∃ nx', m' = ⟨[(0, .cells [.str nameM]), (1, .cells [.list true 4 [vlN k n0 q, vlN k n1 q]]), (2, .cells [.list true 6 [tyN k p q, tyN k p q]]), (3, .cells (tyN k p2 q2)), (4, .cells (vlN k (modV k n0 q n1 k p2 q2) q2)), (5, .cells (rz (modC k n0 q n1 k p2 q2))), (6, .cells [.int .i64 0])], nx'⟩ := by
  refine ACalls.forget (ok26.acalls (by simp) ?_)
  have z22 : leI 2 2 = true := rfl
  have zz : eqI 2 2 = true := rfl
  have zk : eqI k k = true := eqI_t.2 rfl
  have one : Value.nilFunc.oneCell' = true := rfl
  have c27 := call27P
  have c34 := call34 h0.1
  have c31 := call31 hv.1 hv.2
  have c76 := fun (S : List (Nat × AObj)) (nx : Nat) (hS : S[5]? = some (5, .cells (rz 0))) => call76 (S := S) (nx := nx) (rp := 5) (rg := 5) h0 h1 hv hS
  simp only [rowM, tyN, ty, vlN, vl, rz, callG] at c27 c34 c31 c76 ⊢
  simp [c26, m26, List.take, rz, vl, tyN, ty, vlN]
  refine xdcall_p rfl c27 (by simp) ?_
  simp [isKey, lookA, beqB_t, one]
  refine xcall_p (call28 (e := 5)) (by simp) ?_
  simp
  refine xcall_p (call29 (n := 2) (lo := 2) (hi := 2) ⟨by omega, by omega⟩) (by simp) ?_
  simp [zz]
  refine xcall_p (call28 (e := 11)) (by simp) ?_
  simp
  refine xcall_a call30 ?_
  simp
  refine wpS_rangeS e26 ⟨m26 k p q n0 n1 p2 q2, 9⟩ (Sim.of_le (Env.le_of (by simp [e26])) (Mem.le_of rfl (by simp [m26, rowM, rz, vl, tyN, ty, vlN]))) rfl
    (call47 (pos := 9) (gen := 9) (p := 8) (g := 8) (n := 2) (Inv := fun _ m => m = ⟨m26 k p q n0 n1 p2 q2 ++ [(9, .loop .ready e26 ok26r)], 10⟩) (by omega) ?hY ?hc ?h0) ?hr ?hp
  case hY =>
    rintro i m hi rfl
    exact round26 h0.1 hi
  case hc => rfl
  case h0 => rfl
  case hp =>
    rintro v m' ⟨hv', _⟩
    cases hv'
  case hr =>
    rintro v m' ⟨hv', rfl⟩
    refine ⟨.ready, e26, ok26r, rfl, ?_⟩
    simp [e26, m26]
    refine xcall_a call30 ?_
    simp
    refine wpS_rangeS e26b ⟨m26 k p q n0 n1 p2 q2 ++ [(9, .hole), (10, .cells [.int .i64 2])], 11⟩ (Sim.of_le (Env.le_of (by simp [e26b])) (Mem.le_of rfl (by simp [m26]))) rfl
      (call47 (pos := 11) (gen := 11) (p := 10) (g := 10) (n := 2) (Inv := fun _ m => m = ⟨m26 k p q n0 n1 p2 q2 ++ [(9, .hole), (10, .cells [.int .i64 2]), (11, .loop .ready e26b ok26s)], 12⟩) (by omega) ?hY2 ?hc2 ?h02) ?hr2 ?hp2
    case hY2 =>
      rintro i m hi rfl
      exact round26b h0 h1 hi
    case hc2 => rfl
    case h02 => rfl
    case hp2 =>
      rintro v m' ⟨hv', _⟩
      cases hv'
    case hr2 =>
      rintro v m' ⟨hv', rfl⟩
      refine ⟨.ready, e26b, ok26s, rfl, ?_⟩
      simp [e26b, m26, rowM, tyN, ty, vlN, vl, rz]
      refine xcall_p c34 (by simp) ?_
      simp
      refine xcall_p c31 (by simp) ?_
      simp
      refine xcall_p (call28 (e := 13)) (by simp) ?_
      simp [zk]
      refine xcall_p (call28 (e := 10)) (by simp) ?_
      simp [one]
      refine xcall_r (c76 _ _ rfl) ?_ ?_
      · rintro v m' ⟨hv', nx', rfl⟩
        cases hv'
        simp [cr26]
        refine ⟨⟨_, nx'⟩, ?_, nx', rfl⟩
        exact Mem.le_of rfl (by simp)
      · rintro v m' ⟨hv', _⟩
        cases hv'
end Go.Pm

/- BkC21: contracts: a rest, asked for by its name. -/
namespace Go.Pm
open Go Go.Proofs
attribute [-simp] List.getElem?_map
attribute [simp] nilCheckA postA_norm

theorem VRs_repl {σ σ' : Sig} {K K' : Bool → Nat → Prop} {w : World} {x y : AV} {post : List AV} (hp : σ <+: σ') (hK : ∀ p b, K p b → K' p b) (h : ∀ u, VR σ K w x u → VR σ' K' w y u) : ∀ {pre : List AV} {us : List Value}, VRs σ K w (pre ++ x :: post) us → VRs σ' K' w (pre ++ y :: post) us
  | [], us, hv => by
    rw [List.nil_append, VRs] at hv ⊢
    obtain ⟨u, us', h1, h2, h3⟩ := hv
    exact ⟨u, us', h1, h u h2, VRs.mono hp hK (fun _ _ _ => rfl) _ _ h3⟩
  | z :: pre, us, hv => by
    rw [List.cons_append, VRs] at hv ⊢
    obtain ⟨u, us', h1, h2, h3⟩ := hv
    exact ⟨u, us', h1, VR.mono hp hK (fun _ _ _ => rfl) _ _ h2, VRs_repl hp hK h h3⟩

/-- A row that is handed on is a list that nobody writes. -/
theorem ACalls.keepRow {P : Prg} {f : FuncId} (pre : List AV) {post : List AV} {pos g e sz n : Nat} {els : List (List AV)} {m : Mem} {R : AOut → Mem → Prop} (h : ACalls P f (pre ++ .list true sz (els.take n) :: post) (m.turn pos .hole) R) (hp : m.store[pos]? = some (g, .row e sz els)) (hn : n ≤ els.length) :
    ACalls P f (pre ++ .row pos g sz 0 n :: post) m R := by
  refine ⟨h.1, fun β K σ w vals hrel hv hβ => ?_⟩
  obtain ⟨K', hK, hrel', hc⟩ := hrel.keep hp
  refine (h.2 β K' _ w vals hrel' (VRs_repl (List.prefix_append _ _) hK (hc n hn) hv) hβ).mono ?_
  rintro e w' ⟨K2, σ2, m', out, i1, i2, i3, i4, i5, i6⟩
  exact ⟨K2, σ2, m', out, i1, i2, (List.prefix_append _ _).trans i3, fun p b hb => i4 p b (hK p b hb), fun p b hb => i5 p b (hK p b hb), i6⟩

theorem call9 {k n0 n1 : Int} {p q p2 q2 : Nat} (h0 : HasN k p q n0) (h1 : HasN k p q n1) (hv : ValidN k p2 q2) :
    PCalls Bk.pg 9 [.str nameM, .list true 4 [vlN k n0 q, vlN k n1 q], .list true 6 [tyN k p q, tyN k p q], .agg (tyN k p2 q2)] fun out => out = .ret (.tuple [.agg (vlN k (modV k n0 q n1 k p2 q2) q2), .agg (rz (modC k n0 q n1 k p2 q2)), .int .i64 0]) := by
  refine ok9.pcalls (by simp) ?_
  obtain ⟨V, hV⟩ : ∃ V, V = modV k n0 q n1 k p2 q2 := ⟨_, rfl⟩
  obtain ⟨C, hC⟩ : ∃ C, C = modC k n0 q n1 k p2 q2 := ⟨_, rfl⟩
  have c26 := call26 h0 h1 hv
  rw [← hV, ← hC] at c26 ⊢
  have c25 := call25 (f := 26) (caps := [.ptr 0 0 0, .ptr 1 1 0, .ptr 2 2 0, .ptr 3 3 0, .ptr 5 5 0, .ptr 4 4 0]) (S := (m26 k p q n0 n1 p2 q2).take 6) (nx := 6)
    (Q := fun S' => S' = [(0, .cells [.str nameM]), (1, .cells [.list true 4 [vlN k n0 q, vlN k n1 q]]), (2, .cells [.list true 6 [tyN k p q, tyN k p q]]), (3, .cells (tyN k p2 q2)), (4, .cells (vlN k V q2)), (5, .cells (rz C))])
    (c26.mono fun out m' ⟨ho, nx', hm⟩ => ⟨ho, [(0, .cells [.str nameM]), (1, .cells [.list true 4 [vlN k n0 q, vlN k n1 q]]), (2, .cells [.list true 6 [tyN k p q, tyN k p q]]), (3, .cells (tyN k p2 q2)), (4, .cells (vlN k V q2)), (5, .cells (rz C))], nx', hm, rfl, rfl⟩)
  have z : eqI 0 0 = true := rfl
  simp only [m26, List.take, rz, vl, tyN, ty, vlN] at c25 ⊢
  simp [c9]
  refine xcall_r c25 ?_ ?_
  · rintro v m' ⟨hv', S', nx', rfl, rfl⟩
    cases hv'
    simp [z, cr9]
  · rintro v m' ⟨hv', _⟩
    cases hv'
end Go.Pm

/- BkL1: plain: what a rest is. -/
namespace Go.Pm
open Go Go.Proofs

def restN (a b : Int) : Nat := if 0 < a.natAbs % b.natAbs ∧ (decide (a < 0) != decide (b < 0)) = true then b.natAbs - a.natAbs % b.natAbs else a.natAbs % b.natAbs

theorem digs_len_pos (n : Nat) : ltI 0 ↑(digs n).length = decide (0 < n) := by
  rcases Nat.eq_zero_or_pos n with rfl | h
  · rw [digs_zero]; rfl
  · rw [digs_pos h, List.length_cons]
    have h1 : decide (0 < n) = true := decide_eq_true h
    rw [h1]
    exact ltI_t.2 (by omega)

theorem modR_rest (a b : Int) : modR a.natAbs b.natAbs a b = restN a b := by
  unfold modR restN
  rw [digs_len_pos]
  by_cases h : 0 < a.natAbs % b.natAbs
  · simp [h]
  · simp [h]

theorem rest_lt {a b : Int} (hb : b ≠ 0) : restN a b < b.natAbs := by
  have h : a.natAbs % b.natAbs < b.natAbs := Nat.mod_lt _ (by omega)
  unfold restN
  split <;> omega

theorem exN_zero {k n : Int} : exN k n 0 = n.natAbs := by
  unfold exN
  split <;> simp
theorem modV_eq {k a b : Int} {p : Nat} (hk : k = 1 ∨ k = 2) (hb : b ≠ 0) (hp : b.natAbs ≤ if k = 1 then 2 ^ p else 10 ^ p) :
    modV k a ((0 : Nat) : Int) b k p 0 = sgn (decide (b < 0)) (restN a b) ∧ modC k a ((0 : Nat) : Int) b k p 0 = 0 := by
  have hz : eqI b 0 = false := by
    cases h : eqI b 0 with
    | false => rfl
    | true => exact absurd (eqI_t.1 h) hb
  have hE : modE ((0 : Nat) : Int) ((0 : Nat) : Int) = 0 := by decide
  have hX : modX k a ((0 : Nat) : Int) ((0 : Nat) : Int) = a.natAbs := by
    unfold modX
    rw [hE, show ((0 : Nat) : Int) = 0 from rfl, exN_zero]
    simp
  have hY : modY k b ((0 : Nat) : Int) ((0 : Nat) : Int) = b.natAbs := by
    unfold modY
    rw [hE, show ((0 : Nat) : Int) = 0 from rfl, exN_zero]
    simp
  have hM : ∀ R : Nat, fixM k 0 R 0 = R := by
    intro R
    rcases hk with rfl | rfl
    · simp [fixM]
    · simp [fixM]
  have hR := rest_lt (a := a) hb
  unfold modV modC
  rw [hz, hX, hY, hE, modR_rest]
  simp only [Bool.false_eq_true, if_false]
  unfold fixN fixL
  rw [hM, Nat.mod_eq_of_lt (by omega)]
  refine ⟨rfl, ?_⟩
  rw [decide_eq_false (by omega)]
  rfl

theorem modC_zero {k a : Int} {p : Nat} : modC k a ((0 : Nat) : Int) 0 k p 0 = 9 := rfl

/-- What BuiltMod states of a rest. -/
theorem rest_law {a b : Int} (hb : b ≠ 0) : ∃ V, V = sgn (decide (b < 0)) (restN a b) ∧ (V = 0 ∨ (V < 0 ↔ b < 0)) ∧ V < b.natAbs ∧ -(b.natAbs : Int) < V ∧ b ∣ a - V := by
  have hlt := rest_lt (a := a) hb
  obtain ⟨A, hA⟩ : ∃ A, A = a.natAbs := ⟨_, rfl⟩
  obtain ⟨B, hB⟩ : ∃ B, B = b.natAbs := ⟨_, rfl⟩
  have hdm := Nat.div_add_mod A B
  have hmod : A % B < B := Nat.mod_lt _ (by omega)
  obtain ⟨M, hM⟩ : ∃ M, M = B * (A / B) := ⟨_, rfl⟩
  obtain ⟨r, hr⟩ : ∃ r, r = A % B := ⟨_, rfl⟩
  rw [← hM, ← hr] at hdm
  have dM : (b : Int) ∣ (M : Int) := by
    have h1 : (B : Int) ∣ (M : Int) := Int.natCast_dvd_natCast.2 ⟨A / B, hM⟩
    rw [hB] at h1
    exact Int.natAbs_dvd.1 h1
  have dB : (b : Int) ∣ (B : Int) := by
    rw [hB]
    exact Int.dvd_natAbs.2 (Int.dvd_refl b)
  obtain ⟨V, hV⟩ : ∃ V, V = sgn (decide (b < 0)) (restN a b) := ⟨_, rfl⟩
  have hVs : V = if b < 0 then -(restN a b : Int) else restN a b := by
    rw [hV]
    unfold sgn
    simp
  refine ⟨V, hV, ?_, ?_, ?_, ?_⟩
  · by_cases h : b < 0
    · rw [if_pos h] at hVs; omega
    · rw [if_neg h] at hVs; omega
  · split at hVs <;> omega
  · split at hVs <;> omega
  · have key : a - V = M ∨ a - V = -(M : Int) ∨ a - V = M + B ∨ a - V = -(M : Int) - B := by
      unfold restN at hVs
      rw [← hA, ← hB, ← hr] at hVs
      by_cases h1 : a < 0 <;> by_cases h2 : b < 0 <;> by_cases h3 : 0 < r <;> simp [h1, h2, h3] at hVs <;> omega
    rcases key with h | h | h | h <;> rw [h]
    · exact dM
    · exact Int.dvd_neg.2 dM
    · exact Int.dvd_add dM dB
    · exact Int.dvd_sub (Int.dvd_neg.2 dM) dB
end Go.Pm

/- BkC22: contracts: the law of rests. -/
namespace Go.Pm
open Go Go.Proofs
attribute [-simp] List.getElem?_map
attribute [simp] nilCheckA postA_norm

theorem call9R {k n0 n1 : Int} {p q p2 q2 : Nat} {pos1 g1 pos2 g2 e1 e2 : Nat} {m : Mem} (h0 : HasN k p q n0) (h1 : HasN k p q n1) (hv : ValidN k p2 q2)
    (hp1 : m.store[pos1]? = some (g1, .row e1 4 [vlN k n0 q, vlN k n1 q])) (hp2 : m.store[pos2]? = some (g2, .row e2 6 [tyN k p q, tyN k p q])) (hne : pos1 ≠ pos2) :
    ACalls Bk.pg 9 [.str nameM, .row pos1 g1 4 0 2, .row pos2 g2 6 0 2, .agg (tyN k p2 q2)] m fun out m' => out = .ret (.tuple [.agg (vlN k (modV k n0 q n1 k p2 q2) q2), .agg (rz (modC k n0 q n1 k p2 q2)), .int .i64 0]) ∧ m' = (m.turn pos1 .hole).turn pos2 .hole := by
  refine ACalls.keepRow [.str nameM] (e := e1) (els := [vlN k n0 q, vlN k n1 q]) ?_ hp1 (by simp)
  refine ACalls.keepRow [.str nameM, .list true 4 [vlN k n0 q, vlN k n1 q]] (e := e2) (els := [tyN k p q, tyN k p q]) ?_ (by simp only [Mem.turn]; rw [List.getElem?_set_ne hne]; exact hp2) (by simp)
  exact (call9 h0 h1 hv).acalls (by simp [vlN, vl, tyN, ty])

theorem has7 : HasN 2 (15 : Nat) (0 : Nat) (-7) := ⟨⟨.inr ⟨rfl, by omega, by omega⟩, by omega, by omega⟩, ⟨.inr ⟨rfl, by omega, by omega⟩, by omega, by omega⟩, (fun h => absurd h (by decide)), (fun _ => by decide)⟩
theorem has3 : HasN 2 (15 : Nat) (0 : Nat) 3 := ⟨⟨.inr ⟨rfl, by omega, by omega⟩, by omega, by omega⟩, ⟨.inr ⟨rfl, by omega, by omega⟩, by omega, by omega⟩, (fun h => absurd h (by decide)), (fun _ => by decide)⟩

theorem call8 : PCalls Bk.pg 8 [] fun out => out = .ret (.bool true) := by
  refine ok8.pcalls (by simp) ?_
  obtain ⟨e1, e2⟩ := modV_eq (k := 2) (a := -7) (b := 3) (p := 15) (.inr rfl) (by decide) (by decide)
  have e3 : sgn (decide ((3 : Int) < 0)) (restN (-7) 3) = 2 := by decide
  rw [e3] at e1
  have c9 := fun (m : Mem) h1 h2 => call9R (m := m) (pos1 := 0) (g1 := 0) (pos2 := 1) (g2 := 1) (e1 := 24) (e2 := 32) has7 has3 has3.1 h1 h2 (by decide)
  rw [e1, e2] at c9
  have c24 := call24
  have z : eqI 0 0 = true := rfl
  have z2 : eqI 2 2 = true := rfl
  have zs : ((⟨#[]⟩ : ByteArray) == ⟨#[]⟩) = true := by decide
  simp only [tyN, ty, vlN, vl, rz, nameM] at c9 c24
  simp [c8]
  refine xcall_p c24 (by simp) ?_
  simp
  refine xcall_p c24 (by simp) ?_
  simp
  refine xcall_p c24 (by simp) ?_
  simp
  refine xcall_a (c9 _ rfl rfl) ?_
  simp [z, z2, zs, scalarsEq, scalarEq, cr8]
end Go.Pm
