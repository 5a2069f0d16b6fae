/- BkM1: the table of built-in functions: maps with texts as keys. -/
import Derived.Test.YtmcogjekcefjoaaGreatDoorGj
namespace Go.Pm
open Go Go.Proofs
attribute [-simp] List.getElem?_map
attribute [simp] nilCheckA postA_norm

theorem beqB_t (a : ByteArray) : (a == a) = true := by
  exact (beq_bytes a a).2 rfl
theorem beqB_f {a b : ByteArray} (h : a ≠ b) : (a == b) = false := by
  cases hb : a == b with
  | false => rfl
  | true => exact absurd ((beq_bytes a b).1 hb) h

/-- MOD. -/
def nameM : ByteArray := ⟨#[77, 79, 68]⟩
def TabK (L : List (AV × AV)) : Prop := ∀ e ∈ L, ∃ s, e.1 = .str s
def TabM (L : List (AV × AV)) : Prop := TabK L ∧ findA (.str nameM) L = some (some (.agg rowM))

theorem upd_tab (k : ByteArray) (v : AV) : ∀ {L : List (AV × AV)}, TabK L → ∃ L', updA (.str k) v L = some L' ∧ TabK L' ∧ findA (.str k) L' = some (some v) ∧ ∀ k', k' ≠ k → findA (.str k') L' = findA (.str k') L
  | [], _ => ⟨[(.str k, v)], rfl, fun e he => by rw [List.mem_singleton.1 he]; exact ⟨k, rfl⟩, by simp [findA, keyEq, beqB_t], fun k' hk => by simp [findA, keyEq, beqB_f hk]⟩
  | (a, b) :: L, h => by
    obtain ⟨s, hs⟩ := h (a, b) (by simp)
    simp only at hs
    subst hs
    obtain ⟨L', h1, h2, h3, h4⟩ := upd_tab k v (L := L) fun e he => h e (by simp [he])
    by_cases hk : k = s
    · subst hk
      refine ⟨(.str k, v) :: L, by simp [updA, keyEq, beqB_t], fun e he => ?_, by simp [findA, keyEq, beqB_t], fun k' hk' => by simp [findA, keyEq, beqB_f hk']⟩
      rcases List.mem_cons.1 he with rfl | he
      · exact ⟨k, rfl⟩
      · exact h e (by simp [he])
    · refine ⟨(.str s, b) :: L', by simp [updA, keyEq, beqB_f hk, h1], fun e he => ?_, by simp [findA, keyEq, beqB_f hk, h3], fun k' hk' => ?_⟩
      · rcases List.mem_cons.1 he with rfl | he
        · exact ⟨s, rfl⟩
        · exact h2 e he
      · by_cases h5 : k' = s
        · subst h5; simp [findA, keyEq, beqB_t]
        · simp [findA, keyEq, beqB_f h5, h4 k' hk']

theorem take_full {α : Type} {S A : List α} {n : Nat} (h : A.length ≤ n) : (S ++ A).take (S.length + n) = S ++ A := List.take_of_length_le (by rw [List.length_append]; omega)

theorem take_part {α : Type} (S A : List α) (n : Nat) : (S ++ A).take (S.length + n) = S ++ A.take n := by
  induction S with
  | nil => simp
  | cons x S ih => rw [List.length_cons, Nat.add_right_comm, List.cons_append, List.take_succ_cons, ih]; rfl

theorem next_split {es : List (AV × AV × Nat)} {p p' : AV × AV × Nat → Bool} {f : AV × AV × Nat → AV × Mem} {m : Mem} {Q : AV → Mem → Prop} (h0 : Q (.tuple [.bool false]) m) (h1 : ∀ e ∈ es, p' e = true → Q (f e).1 (f e).2) :
    AllN (if (es.filter p).isEmpty then [(.tuple [.bool false], m)] else (es.filter p').map f) Q := by
  split
  · exact AllN_iff.2 fun v m' hm => by
      rcases List.mem_singleton.1 hm with h
      injection h with h2 h3
      subst h2; subst h3; exact h0
  · refine AllN_iff.2 fun v m' hm => ?_
    obtain ⟨e, he, hf⟩ := List.mem_map.1 hm
    obtain ⟨he1, he2⟩ := List.mem_filter.1 he
    have := h1 e he1 he2
    rw [hf] at this
    exact this

/-- What is not seen yet grows less. -/
theorem unseen_less {es : List (AV × AV × Nat)} {seen : List Nat} {e : AV × AV × Nat} (he : e ∈ es) (hs : (!seen.contains e.2.2) = true) :
    (es.filter fun x => !(seen ++ [e.2.2]).contains x.2.2).length < (es.filter fun x => !seen.contains x.2.2).length := by
  induction es with
  | nil => cases he
  | cons x es ih =>
    have mono : ∀ l : List (AV × AV × Nat), (l.filter fun x => !(seen ++ [e.2.2]).contains x.2.2).length ≤ (l.filter fun x => !seen.contains x.2.2).length := by
      intro l
      induction l with
      | nil => exact Nat.le_refl _
      | cons y l ihl =>
        simp only [List.filter_cons]
        by_cases h1 : (!seen.contains y.2.2) = true
        · rw [if_pos h1]
          split <;> simp only [List.length_cons] <;> omega
        · have h2 : (!(seen ++ [e.2.2]).contains y.2.2) = false := by
            simp at h1 ⊢
            exact fun h => absurd h1 h
          rw [h2, if_neg h1]
          simpa using ihl
    rcases List.mem_cons.1 he with rfl | he
    · have h2 : (!(seen ++ [e.2.2]).contains e.2.2) = false := by simp
      simp only [List.filter_cons, h2, hs, if_true, List.length_cons]
      have := mono es
      simp only [Bool.false_eq_true, if_false]
      omega
    · have := ih he
      simp only [List.filter_cons]
      by_cases h1 : (!seen.contains x.2.2) = true
      · rw [if_pos h1]
        split <;> simp only [List.length_cons] <;> omega
      · have h2 : (!(seen ++ [e.2.2]).contains x.2.2) = false := by
          simp at h1 ⊢
          exact fun h => absurd h1 h
        rw [h2, if_neg h1]
        simpa using this

/-- What is found by its time is one of the entries. -/
theorem find_born {es : List (AV × AV × Nat)} {e : AV × AV × Nat} (he : e ∈ es) : ∃ e', e' ∈ es ∧ es.find? (fun x => x.2.2 == e.2.2) = some e' := by
  cases h : es.find? (fun x => x.2.2 == e.2.2) with
  | none =>
    have := List.find?_eq_none.1 h e he
    simp at this
  | some e' => exact ⟨e', List.mem_of_find?_eq_some h, rfl⟩

theorem zipB_mem : ∀ {kv : List (AV × AV)} {bs : List Nat} {e : AV × AV × Nat}, e ∈ zipB kv bs → (e.1, e.2.1) ∈ kv ∧ e.2.2 ∈ bs
  | [], _, _, h => by simp [zipB] at h
  | _ :: _, [], _, h => by simp [zipB] at h
  | (k, v) :: kv, b :: bs, e, h => by
    simp only [zipB] at h
    rcases List.mem_cons.1 h with rfl | h
    · simp
    · obtain ⟨h1, h2⟩ := zipB_mem h
      exact ⟨by simp [h1], by simp [h2]⟩
theorem born_all {kv : List (AV × AV)} {bs : List Nat} {clock : Nat} (h : BornOk bs clock) : (zipB kv bs).all (fun e => e.2.2 < clock) = true :=
  List.all_eq_true.2 fun e he => decide_eq_true (h.2 _ (zipB_mem he).2)

/-- A text that is no key yet. -/
theorem upd_lit {k : ByteArray} {v : AV} : ∀ {ss : List (ByteArray × AV)}, (ss.all fun x => decide (k ≠ x.1)) = true → updA (.str k) v (ss.map fun x => (AV.str x.1, x.2)) = some ((ss.map fun x => (AV.str x.1, x.2)) ++ [(.str k, v)])
  | [], _ => rfl
  | (s, b) :: ss, h => by
    simp only [List.all_cons, Bool.and_eq_true, decide_eq_true_eq] at h
    have ih := upd_lit (k := k) (v := v) (ss := ss) h.2
    simp only [List.map_cons, updA, keyEq, beqB_f h.1, ih, Option.map_some, List.cons_append]
end Go.Pm

/- BkM2: contracts: the table of built-in functions: numeric, textual, changing. Printed by gentab.py. -/
namespace Go.Pm
open Go Go.Proofs
attribute [-simp] List.getElem?_map
attribute [simp] nilCheckA postA_norm

def rowA (a b : Int) (f g : AV) : AV := .agg [.int .i64 a, .int .i64 b, f, g]

set_option maxHeartbeats 8000000 in
theorem call44 {S : List (Nat × AObj)} {g nx : Nat} {L : List (AV × AV)} (hL : TabK L) :
    ACalls Bk.pg 44 [.map S.length g] ⟨S ++ [(g, .map L)], nx⟩ fun out m' => out = .ret (.tuple []) ∧ ∃ L' nx', m' = ⟨S ++ [(g, .map L')], nx'⟩ ∧ TabM L' := by
  refine ACalls.forget (ok44.acalls (by simp) ?_)
  obtain ⟨L1, u2, t3, f4, g5⟩ := upd_tab ⟨#[65, 66, 83]⟩ (rowA 1 1 (.fn 61 []) (.fn 62 [])) hL
  simp only [rowA] at u2
  obtain ⟨L6, u7, t8, f9, g10⟩ := upd_tab ⟨#[83, 73, 71, 78]⟩ (rowA 1 1 (.fn 65 []) (.fn 68 [])) t3
  simp only [rowA] at u7
  have m11 : updA (.str ⟨#[70, 76, 79, 79, 82]⟩) (.int .i64 (-1)) [] = some [(.str ⟨#[70, 76, 79, 79, 82]⟩, .int .i64 (-1))] := upd_lit (ss := []) (by decide)
  have m12 : updA (.str ⟨#[67, 69, 73, 76]⟩) (.int .i64 1) [(.str ⟨#[70, 76, 79, 79, 82]⟩, .int .i64 (-1))] = some [(.str ⟨#[70, 76, 79, 79, 82]⟩, .int .i64 (-1)), (.str ⟨#[67, 69, 73, 76]⟩, .int .i64 1)] := upd_lit (ss := [(⟨#[70, 76, 79, 79, 82]⟩, .int .i64 (-1))]) (by decide)
  have m13 : updA (.str ⟨#[84, 82, 85, 78, 67]⟩) (.int .i64 0) [(.str ⟨#[70, 76, 79, 79, 82]⟩, .int .i64 (-1)), (.str ⟨#[67, 69, 73, 76]⟩, .int .i64 1)] = some [(.str ⟨#[70, 76, 79, 79, 82]⟩, .int .i64 (-1)), (.str ⟨#[67, 69, 73, 76]⟩, .int .i64 1), (.str ⟨#[84, 82, 85, 78, 67]⟩, .int .i64 0)] := upd_lit (ss := [(⟨#[70, 76, 79, 79, 82]⟩, .int .i64 (-1)), (⟨#[67, 69, 73, 76]⟩, .int .i64 1)]) (by decide)
  simp [c44, isKey, u2, u7, m11, m12, m13]
  intro bs14 cl15 hb16 hl17
  obtain ⟨es18, he19⟩ : ∃ es, es = zipB [(AV.str ⟨#[70, 76, 79, 79, 82]⟩, AV.int .i64 (-1)), (AV.str ⟨#[67, 69, 73, 76]⟩, AV.int .i64 1), (AV.str ⟨#[84, 82, 85, 78, 67]⟩, AV.int .i64 0)] bs14 := ⟨_, rfl⟩
  have ha20 : es18.all (fun e => e.2.2 < cl15) = true := by rw [he19]; exact born_all hb16
  have hk21 : ∀ e ∈ es18, ∃ s x, e.1 = .str s ∧ e.2.1 = .int .i64 x ∧ s ≠ nameM := by
    intro e he
    rw [he19] at he
    have h1 := (zipB_mem he).1
    simp only [List.mem_cons, List.not_mem_nil, or_false, Prod.mk.injEq] at h1
    rcases h1 with ⟨h1, h2⟩ | ⟨h1, h2⟩ | ⟨h1, h2⟩ <;> exact ⟨_, _, h1, h2, by decide⟩
  rw [← he19]
  refine wpS_loopS (ι := List Nat × List (AV × AV) × Nat) (fun _ => [(0, .map S.length g), (17, .ptr (S.length + 2) (nx + 1) 0)]) (fun s => ⟨S ++ [(g, .map s.2.1), (nx, .emap es18 cl15), (nx + 1, .iter (S.length + 1) (nx) cl15 s.1 cl15)], s.2.2⟩)
    (fun s => (es18.filter fun x => !s.1.contains x.2.2).length) (fun s => TabK s.2.1) ([], L6, nx + 2) t8 (Sim.of_le (Env.le_of (by simp)) (Mem.le_of rfl (by simp [take_part]))) ?_
  rintro ⟨seen22, L23, n24⟩ t25
  simp only at t25
  simp [ha20]
  refine next_split ?_ (fun e he hp => ?_)
  rotate_left
  · obtain ⟨e', he', hf⟩ := find_born he
    obtain ⟨s, x, hs, hx, hne⟩ := hk21 e' he'
    obtain ⟨L', u', t', f', g'⟩ := upd_tab s (rowA 1 1 (.fn 70 []) (.fn 71 [.ptr (S.length + 3) (n24) 0])) t25
    simp only [rowA] at u'
    
    have one : Value.nilFunc.oneCell' = true := rfl
    simp [hf, hs, hx, isKey, u', one]
    exact ⟨seen22 ++ [e.2.2], L', t', n24 + 1, by simpa using unseen_less he (by simpa using hp), Sim.of_le (Env.le_of (by simp)) (Mem.le_of rfl (by simp [take_part]))⟩
  obtain ⟨L26, u27, t28, f29, g30⟩ := upd_tab ⟨#[82, 79, 85, 78, 68]⟩ (rowA 2 2 (.fn 73 []) (.fn 74 [])) t25
  simp only [rowA] at u27
  obtain ⟨L31, u32, t33, f34, g35⟩ := upd_tab ⟨#[77, 79, 68]⟩ (rowA 2 2 (.fn 75 []) (.fn 76 [])) t28
  simp only [rowA] at u32
  have t36 : TabM L31 := ⟨t33, f34⟩
  have m37 : updA (.str ⟨#[77, 65, 88]⟩) (.int .i64 1) [] = some [(.str ⟨#[77, 65, 88]⟩, .int .i64 1)] := upd_lit (ss := []) (by decide)
  have m38 : updA (.str ⟨#[77, 73, 78]⟩) (.int .i64 (-1)) [(.str ⟨#[77, 65, 88]⟩, .int .i64 1)] = some [(.str ⟨#[77, 65, 88]⟩, .int .i64 1), (.str ⟨#[77, 73, 78]⟩, .int .i64 (-1))] := upd_lit (ss := [(⟨#[77, 65, 88]⟩, .int .i64 1)]) (by decide)
  simp [isKey, u27, u32, m37, m38]
  intro bs39 cl40 hb41 hl42
  obtain ⟨es43, he44⟩ : ∃ es, es = zipB [(AV.str ⟨#[77, 65, 88]⟩, AV.int .i64 1), (AV.str ⟨#[77, 73, 78]⟩, AV.int .i64 (-1))] bs39 := ⟨_, rfl⟩
  have ha45 : es43.all (fun e => e.2.2 < cl40) = true := by rw [he44]; exact born_all hb41
  have hk46 : ∀ e ∈ es43, ∃ s x, e.1 = .str s ∧ e.2.1 = .int .i64 x ∧ s ≠ nameM := by
    intro e he
    rw [he44] at he
    have h1 := (zipB_mem he).1
    simp only [List.mem_cons, List.not_mem_nil, or_false, Prod.mk.injEq] at h1
    rcases h1 with ⟨h1, h2⟩ | ⟨h1, h2⟩ <;> exact ⟨_, _, h1, h2, by decide⟩
  rw [← he44]
  refine wpS_loopS (ι := List Nat × List (AV × AV) × Nat) (fun _ => [(0, .map S.length g), (33, .ptr (S.length + 4) (n24 + 1) 0)]) (fun s => ⟨S ++ [(g, .map s.2.1), (nx, .emap es18 cl15), (nx + 1, .iter (S.length + 1) (nx) cl15 seen22 cl15), (n24, .emap es43 cl40), (n24 + 1, .iter (S.length + 3) (n24) cl40 s.1 cl40)], s.2.2⟩)
    (fun s => (es43.filter fun x => !s.1.contains x.2.2).length) (fun s => TabM s.2.1) ([], L31, n24 + 2) t36 (Sim.of_le (Env.le_of (by simp)) (Mem.le_of rfl (by simp [take_part]))) ?_
  rintro ⟨seen47, L48, n49⟩ t50
  simp only at t50
  simp [ha45]
  refine next_split ?_ (fun e he hp => ?_)
  rotate_left
  · obtain ⟨e', he', hf⟩ := find_born he
    obtain ⟨s, x, hs, hx, hne⟩ := hk46 e' he'
    obtain ⟨L', u', t', f', g'⟩ := upd_tab s (rowA 1 20 (.fn 75 []) (.fn 77 [.ptr (S.length + 5) (n49) 0])) t50.1
    simp only [rowA] at u'
    have t'' : TabM L' := ⟨t', by rw [g' _ (Ne.symm hne)]; exact t50.2⟩
    
    have one : Value.nilFunc.oneCell' = true := rfl
    simp [hf, hs, hx, isKey, u', one]
    exact ⟨seen47 ++ [e.2.2], L', t'', n49 + 1, by simpa using unseen_less he (by simpa using hp), Sim.of_le (Env.le_of (by simp)) (Mem.le_of rfl (by simp [take_part]))⟩
  have m51 : updA (.str ⟨#[65, 68, 68]⟩) (.fn 79 []) [] = some [(.str ⟨#[65, 68, 68]⟩, .fn 79 [])] := upd_lit (ss := []) (by decide)
  have m52 : updA (.str ⟨#[83, 85, 66, 84, 82, 65, 67, 84]⟩) (.fn 80 []) [(.str ⟨#[65, 68, 68]⟩, .fn 79 [])] = some [(.str ⟨#[65, 68, 68]⟩, .fn 79 []), (.str ⟨#[83, 85, 66, 84, 82, 65, 67, 84]⟩, .fn 80 [])] := upd_lit (ss := [(⟨#[65, 68, 68]⟩, .fn 79 [])]) (by decide)
  have m53 : updA (.str ⟨#[77, 85, 76, 84, 73, 80, 76, 89]⟩) (.fn 81 []) [(.str ⟨#[65, 68, 68]⟩, .fn 79 []), (.str ⟨#[83, 85, 66, 84, 82, 65, 67, 84]⟩, .fn 80 [])] = some [(.str ⟨#[65, 68, 68]⟩, .fn 79 []), (.str ⟨#[83, 85, 66, 84, 82, 65, 67, 84]⟩, .fn 80 []), (.str ⟨#[77, 85, 76, 84, 73, 80, 76, 89]⟩, .fn 81 [])] := upd_lit (ss := [(⟨#[65, 68, 68]⟩, .fn 79 []), (⟨#[83, 85, 66, 84, 82, 65, 67, 84]⟩, .fn 80 [])]) (by decide)
  have m54 : updA (.str ⟨#[68, 73, 86, 73, 68, 69]⟩) (.fn 82 []) [(.str ⟨#[65, 68, 68]⟩, .fn 79 []), (.str ⟨#[83, 85, 66, 84, 82, 65, 67, 84]⟩, .fn 80 []), (.str ⟨#[77, 85, 76, 84, 73, 80, 76, 89]⟩, .fn 81 [])] = some [(.str ⟨#[65, 68, 68]⟩, .fn 79 []), (.str ⟨#[83, 85, 66, 84, 82, 65, 67, 84]⟩, .fn 80 []), (.str ⟨#[77, 85, 76, 84, 73, 80, 76, 89]⟩, .fn 81 []), (.str ⟨#[68, 73, 86, 73, 68, 69]⟩, .fn 82 [])] := upd_lit (ss := [(⟨#[65, 68, 68]⟩, .fn 79 []), (⟨#[83, 85, 66, 84, 82, 65, 67, 84]⟩, .fn 80 []), (⟨#[77, 85, 76, 84, 73, 80, 76, 89]⟩, .fn 81 [])]) (by decide)
  have one : Value.nilFunc.oneCell' = true := rfl
  simp [isKey, m51, m52, m53, m54]
  intro bs55 cl56 hb57 hl58
  obtain ⟨es59, he60⟩ : ∃ es, es = zipB [(AV.str ⟨#[65, 68, 68]⟩, AV.fn 79 []), (AV.str ⟨#[83, 85, 66, 84, 82, 65, 67, 84]⟩, AV.fn 80 []), (AV.str ⟨#[77, 85, 76, 84, 73, 80, 76, 89]⟩, AV.fn 81 []), (AV.str ⟨#[68, 73, 86, 73, 68, 69]⟩, AV.fn 82 [])] bs55 := ⟨_, rfl⟩
  have ha61 : es59.all (fun e => e.2.2 < cl56) = true := by rw [he60]; exact born_all hb57
  have hk62 : ∀ e ∈ es59, ∃ s x, e.1 = .str s ∧ e.2.1 = .fn x [] ∧ s ≠ nameM := by
    intro e he
    rw [he60] at he
    have h1 := (zipB_mem he).1
    simp only [List.mem_cons, List.not_mem_nil, or_false, Prod.mk.injEq] at h1
    rcases h1 with ⟨h1, h2⟩ | ⟨h1, h2⟩ | ⟨h1, h2⟩ | ⟨h1, h2⟩ <;> exact ⟨_, _, h1, h2, by decide⟩
  rw [← he60]
  refine wpS_loopS (ι := List Nat × List (AV × AV) × Nat) (fun _ => [(0, .map S.length g), (45, .ptr (S.length + 6) (n49 + 1) 0)]) (fun s => ⟨S ++ [(g, .map s.2.1), (nx, .emap es18 cl15), (nx + 1, .iter (S.length + 1) (nx) cl15 seen22 cl15), (n24, .emap es43 cl40), (n24 + 1, .iter (S.length + 3) (n24) cl40 seen47 cl40), (n49, .emap es59 cl56), (n49 + 1, .iter (S.length + 5) (n49) cl56 s.1 cl56)], s.2.2⟩)
    (fun s => (es59.filter fun x => !s.1.contains x.2.2).length) (fun s => TabM s.2.1) ([], L48, n49 + 2) t50 (Sim.of_le (Env.le_of (by simp)) (Mem.le_of rfl (by simp [take_part]))) ?_
  rintro ⟨seen63, L64, n65⟩ t66
  simp only at t66
  simp [ha61]
  refine next_split ?_ (fun e he hp => ?_)
  rotate_left
  · obtain ⟨e', he', hf⟩ := find_born he
    obtain ⟨s, x, hs, hx, hne⟩ := hk62 e' he'
    obtain ⟨L', u', t', f', g'⟩ := upd_tab s (rowA 3 4 (.fn 83 []) (.fn 84 [.ptr (S.length + 7) (n65) 0])) t66.1
    simp only [rowA] at u'
    have t'' : TabM L' := ⟨t', by rw [g' _ (Ne.symm hne)]; exact t66.2⟩
    
    have one : Value.nilFunc.oneCell' = true := rfl
    simp [hf, hs, hx, isKey, u', one]
    exact ⟨seen63 ++ [e.2.2], L', t'', n65 + 1, by simpa using unseen_less he (by simpa using hp), Sim.of_le (Env.le_of (by simp)) (Mem.le_of rfl (by simp [take_part]))⟩
  have m67 : updA (.str ⟨#[70, 73, 88, 69, 68]⟩) (.int .i64 0) [] = some [(.str ⟨#[70, 73, 88, 69, 68]⟩, .int .i64 0)] := upd_lit (ss := []) (by decide)
  have m68 : updA (.str ⟨#[66, 73, 78, 65, 82, 89]⟩) (.int .i64 1) [(.str ⟨#[70, 73, 88, 69, 68]⟩, .int .i64 0)] = some [(.str ⟨#[70, 73, 88, 69, 68]⟩, .int .i64 0), (.str ⟨#[66, 73, 78, 65, 82, 89]⟩, .int .i64 1)] := upd_lit (ss := [(⟨#[70, 73, 88, 69, 68]⟩, .int .i64 0)]) (by decide)
  have m69 : updA (.str ⟨#[68, 69, 67, 73, 77, 65, 76]⟩) (.int .i64 2) [(.str ⟨#[70, 73, 88, 69, 68]⟩, .int .i64 0), (.str ⟨#[66, 73, 78, 65, 82, 89]⟩, .int .i64 1)] = some [(.str ⟨#[70, 73, 88, 69, 68]⟩, .int .i64 0), (.str ⟨#[66, 73, 78, 65, 82, 89]⟩, .int .i64 1), (.str ⟨#[68, 69, 67, 73, 77, 65, 76]⟩, .int .i64 2)] := upd_lit (ss := [(⟨#[70, 73, 88, 69, 68]⟩, .int .i64 0), (⟨#[66, 73, 78, 65, 82, 89]⟩, .int .i64 1)]) (by decide)
  have m70 : updA (.str ⟨#[70, 76, 79, 65, 84]⟩) (.int .i64 3) [(.str ⟨#[70, 73, 88, 69, 68]⟩, .int .i64 0), (.str ⟨#[66, 73, 78, 65, 82, 89]⟩, .int .i64 1), (.str ⟨#[68, 69, 67, 73, 77, 65, 76]⟩, .int .i64 2)] = some [(.str ⟨#[70, 73, 88, 69, 68]⟩, .int .i64 0), (.str ⟨#[66, 73, 78, 65, 82, 89]⟩, .int .i64 1), (.str ⟨#[68, 69, 67, 73, 77, 65, 76]⟩, .int .i64 2), (.str ⟨#[70, 76, 79, 65, 84]⟩, .int .i64 3)] := upd_lit (ss := [(⟨#[70, 73, 88, 69, 68]⟩, .int .i64 0), (⟨#[66, 73, 78, 65, 82, 89]⟩, .int .i64 1), (⟨#[68, 69, 67, 73, 77, 65, 76]⟩, .int .i64 2)]) (by decide)
  simp [isKey, m67, m68, m69, m70]
  intro bs71 cl72 hb73 hl74
  obtain ⟨es75, he76⟩ : ∃ es, es = zipB [(AV.str ⟨#[70, 73, 88, 69, 68]⟩, AV.int .i64 0), (AV.str ⟨#[66, 73, 78, 65, 82, 89]⟩, AV.int .i64 1), (AV.str ⟨#[68, 69, 67, 73, 77, 65, 76]⟩, AV.int .i64 2), (AV.str ⟨#[70, 76, 79, 65, 84]⟩, AV.int .i64 3)] bs71 := ⟨_, rfl⟩
  have ha77 : es75.all (fun e => e.2.2 < cl72) = true := by rw [he76]; exact born_all hb73
  have hk78 : ∀ e ∈ es75, ∃ s x, e.1 = .str s ∧ e.2.1 = .int .i64 x ∧ s ≠ nameM := by
    intro e he
    rw [he76] at he
    have h1 := (zipB_mem he).1
    simp only [List.mem_cons, List.not_mem_nil, or_false, Prod.mk.injEq] at h1
    rcases h1 with ⟨h1, h2⟩ | ⟨h1, h2⟩ | ⟨h1, h2⟩ | ⟨h1, h2⟩ <;> exact ⟨_, _, h1, h2, by decide⟩
  rw [← he76]
  refine wpS_loopS (ι := List Nat × List (AV × AV) × Nat) (fun _ => [(0, .map S.length g), (57, .ptr (S.length + 8) (n65 + 1) 0)]) (fun s => ⟨S ++ [(g, .map s.2.1), (nx, .emap es18 cl15), (nx + 1, .iter (S.length + 1) (nx) cl15 seen22 cl15), (n24, .emap es43 cl40), (n24 + 1, .iter (S.length + 3) (n24) cl40 seen47 cl40), (n49, .emap es59 cl56), (n49 + 1, .iter (S.length + 5) (n49) cl56 seen63 cl56), (n65, .emap es75 cl72), (n65 + 1, .iter (S.length + 7) (n65) cl72 s.1 cl72)], s.2.2⟩)
    (fun s => (es75.filter fun x => !s.1.contains x.2.2).length) (fun s => TabM s.2.1) ([], L64, n65 + 2) t66 (Sim.of_le (Env.le_of (by simp)) (Mem.le_of rfl (by simp [take_part]))) ?_
  rintro ⟨seen79, L80, n81⟩ t82
  simp only at t82
  simp [ha77]
  refine next_split ?_ (fun e he hp => ?_)
  rotate_left
  · obtain ⟨e', he', hf⟩ := find_born he
    obtain ⟨s, x, hs, hx, hne⟩ := hk78 e' he'
    simp [hf, hs, hx, isKey]
    refine br_cond rfl (fun h5 => ?_) (fun h5 => ?_)
    · obtain ⟨L', u', t', f', g'⟩ := upd_tab s (rowA 1 2 (.fn 87 [.ptr (S.length + 9) (n81) 0]) (.fn 89 [])) t82.1
      simp only [rowA] at u'
      have t'' : TabM L' := ⟨t', by rw [g' _ (Ne.symm hne)]; exact t82.2⟩
      simp [isKey, u']
      exact ⟨seen79 ++ [e.2.2], L', t'', n81 + 1, by simpa using unseen_less he (by simpa using hp), Sim.of_le (Env.le_of (by simp)) (Mem.le_of rfl (by simp [take_part]))⟩
    · obtain ⟨L', u', t', f', g'⟩ := upd_tab s (rowA 1 3 (.fn 87 [.ptr (S.length + 9) (n81) 0]) (.fn 89 [])) t82.1
      simp only [rowA] at u'
      have t'' : TabM L' := ⟨t', by rw [g' _ (Ne.symm hne)]; exact t82.2⟩
      simp [isKey, u']
      exact ⟨seen79 ++ [e.2.2], L', t'', n81 + 1, by simpa using unseen_less he (by simpa using hp), Sim.of_le (Env.le_of (by simp)) (Mem.le_of rfl (by simp [take_part]))⟩
  simp [cr44]
  exact ⟨⟨S ++ [(g, .map L80)], _⟩, Mem.le_of rfl (by simp [take_part]), _, ⟨_, rfl⟩, t82⟩

set_option maxHeartbeats 8000000 in
theorem call45 {S : List (Nat × AObj)} {g nx : Nat} {L : List (AV × AV)} (hL : TabM L) :
    ACalls Bk.pg 45 [.map S.length g] ⟨S ++ [(g, .map L)], nx⟩ fun out m' => out = .ret (.tuple []) ∧ ∃ L' nx', m' = ⟨S ++ [(g, .map L')], nx'⟩ ∧ TabM L' := by
  refine ACalls.forget (ok45.acalls (by simp) ?_)
  have one : Value.nilFunc.oneCell' = true := rfl
  obtain ⟨L1, u2, t3, f4, g5⟩ := upd_tab ⟨#[76, 69, 78, 71, 84, 72]⟩ (rowA 1 1 (.fn 90 []) (.fn 94 [])) hL.1
  simp only [rowA] at u2
  have t6 : TabM L1 := ⟨t3, by rw [g5 _ (by decide)]; exact hL.2⟩
  obtain ⟨L7, u8, t9, f10, g11⟩ := upd_tab ⟨#[83, 85, 66, 83, 84, 82]⟩ (rowA 2 3 (.fn 95 []) (.fn 96 [])) t6.1
  simp only [rowA] at u8
  have t12 : TabM L7 := ⟨t9, by rw [g11 _ (by decide)]; exact t6.2⟩
  obtain ⟨L13, u14, t15, f16, g17⟩ := upd_tab ⟨#[73, 78, 68, 69, 88]⟩ (rowA 2 2 (.fn 90 []) (.fn 97 [.ptr (S.length + 1) nx 0])) t12.1
  simp only [rowA] at u14
  have t18 : TabM L13 := ⟨t15, by rw [g17 _ (by decide)]; exact t12.2⟩
  obtain ⟨L19, u20, t21, f22, g23⟩ := upd_tab ⟨#[86, 69, 82, 73, 70, 89]⟩ (rowA 2 2 (.fn 90 []) (.fn 99 [.ptr (S.length + 1) nx 0])) t18.1
  simp only [rowA] at u20
  have t24 : TabM L19 := ⟨t21, by rw [g23 _ (by decide)]; exact t18.2⟩
  simp [c45, isKey, u2, u8, u14, u20, one, cr45]
  exact ⟨⟨S ++ [(g, .map L19)], _⟩, Mem.le_of rfl (by simp [take_part]), _, ⟨_, rfl⟩, t24⟩

set_option maxHeartbeats 8000000 in
theorem call46 {S : List (Nat × AObj)} {g nx : Nat} {L : List (AV × AV)} (hL : TabM L) :
    ACalls Bk.pg 46 [.map S.length g] ⟨S ++ [(g, .map L)], nx⟩ fun out m' => out = .ret (.tuple []) ∧ ∃ L' nx', m' = ⟨S ++ [(g, .map L')], nx'⟩ ∧ TabM L' := by
  refine ACalls.forget (ok46.acalls (by simp) ?_)
  have one : Value.nilFunc.oneCell' = true := rfl
  obtain ⟨L1, u2, t3, f4, g5⟩ := upd_tab ⟨#[84, 82, 65, 78, 83, 76, 65, 84, 69]⟩ (rowA 3 3 (.fn 102 []) (.fn 103 [])) hL.1
  simp only [rowA] at u2
  have t6 : TabM L1 := ⟨t3, by rw [g5 _ (by decide)]; exact hL.2⟩
  obtain ⟨L7, u8, t9, f10, g11⟩ := upd_tab ⟨#[82, 69, 80, 69, 65, 84]⟩ (rowA 2 2 (.fn 106 []) (.fn 108 [])) t6.1
  simp only [rowA] at u8
  have t12 : TabM L7 := ⟨t9, by rw [g11 _ (by decide)]; exact t6.2⟩
  obtain ⟨L13, u14, t15, f16, g17⟩ := upd_tab ⟨#[67, 79, 80, 89]⟩ (rowA 2 2 (.fn 106 []) (.fn 110 [])) t12.1
  simp only [rowA] at u14
  have t18 : TabM L13 := ⟨t15, by rw [g17 _ (by decide)]; exact t12.2⟩
  obtain ⟨L19, u20, t21, f22, g23⟩ := upd_tab ⟨#[82, 69, 86, 69, 82, 83, 69]⟩ (rowA 1 1 (.fn 101 []) (.fn 111 [])) t18.1
  simp only [rowA] at u20
  have t24 : TabM L19 := ⟨t21, by rw [g23 _ (by decide)]; exact t18.2⟩
  obtain ⟨L25, u26, t27, f28, g29⟩ := upd_tab ⟨#[83, 84, 82, 73, 78, 71]⟩ (rowA 1 1 (.fn 101 []) (.fn 113 [])) t24.1
  simp only [rowA] at u26
  have t30 : TabM L25 := ⟨t27, by rw [g29 _ (by decide)]; exact t24.2⟩
  obtain ⟨L31, u32, t33, f34, g35⟩ := upd_tab ⟨#[66, 79, 79, 76]⟩ (rowA 3 3 (.fn 114 []) (.fn 115 [])) t30.1
  simp only [rowA] at u32
  have t36 : TabM L31 := ⟨t33, by rw [g35 _ (by decide)]; exact t30.2⟩
  have m37 : updA (.str ⟨#[67, 72, 65, 82]⟩) (.int .i64 4) [] = some [(.str ⟨#[67, 72, 65, 82]⟩, .int .i64 4)] := upd_lit (ss := []) (by decide)
  have m38 : updA (.str ⟨#[66, 73, 84]⟩) (.int .i64 5) [(.str ⟨#[67, 72, 65, 82]⟩, .int .i64 4)] = some [(.str ⟨#[67, 72, 65, 82]⟩, .int .i64 4), (.str ⟨#[66, 73, 84]⟩, .int .i64 5)] := upd_lit (ss := [(⟨#[67, 72, 65, 82]⟩, .int .i64 4)]) (by decide)
  simp [c46, isKey, u2, u8, u14, u20, u26, u32, m37, m38]
  intro bs39 cl40 hb41 hl42
  obtain ⟨es43, he44⟩ : ∃ es, es = zipB [(AV.str ⟨#[67, 72, 65, 82]⟩, AV.int .i64 4), (AV.str ⟨#[66, 73, 84]⟩, AV.int .i64 5)] bs39 := ⟨_, rfl⟩
  have ha45 : es43.all (fun e => e.2.2 < cl40) = true := by rw [he44]; exact born_all hb41
  have hk46 : ∀ e ∈ es43, ∃ s x, e.1 = .str s ∧ e.2.1 = .int .i64 x ∧ s ≠ nameM := by
    intro e he
    rw [he44] at he
    have h1 := (zipB_mem he).1
    simp only [List.mem_cons, List.not_mem_nil, or_false, Prod.mk.injEq] at h1
    rcases h1 with ⟨h1, h2⟩ | ⟨h1, h2⟩ <;> exact ⟨_, _, h1, h2, by decide⟩
  rw [← he44]
  refine wpS_loopS (ι := List Nat × List (AV × AV) × Nat) (fun _ => [(0, .map S.length g), (26, .ptr (S.length + 2) (nx + 1) 0)]) (fun s => ⟨S ++ [(g, .map s.2.1), (nx, .emap es43 cl40), (nx + 1, .iter (S.length + 1) (nx) cl40 s.1 cl40)], s.2.2⟩)
    (fun s => (es43.filter fun x => !s.1.contains x.2.2).length) (fun s => TabM s.2.1) ([], L31, nx + 2) t36 (Sim.of_le (Env.le_of (by simp)) (Mem.le_of rfl (by simp [take_part]))) ?_
  rintro ⟨seen47, L48, n49⟩ t50
  simp only at t50
  simp [ha45]
  refine next_split ?_ (fun e he hp => ?_)
  rotate_left
  · obtain ⟨e', he', hf⟩ := find_born he
    obtain ⟨s, x, hs, hx, hne⟩ := hk46 e' he'
    obtain ⟨L', u', t', f', g'⟩ := upd_tab s (rowA 1 2 (.fn 118 [.ptr (S.length + 3) (n49) 0]) (.fn 121 [])) t50.1
    simp only [rowA] at u'
    have t'' : TabM L' := ⟨t', by rw [g' _ (Ne.symm hne)]; exact t50.2⟩
    
    have one : Value.nilFunc.oneCell' = true := rfl
    simp [hf, hs, hx, isKey, u', one]
    exact ⟨seen47 ++ [e.2.2], L', t'', n49 + 1, by simpa using unseen_less he (by simpa using hp), Sim.of_le (Env.le_of (by simp)) (Mem.le_of rfl (by simp [take_part]))⟩
  have m51 : updA (.str ⟨#[72, 73, 71, 72]⟩) (.fn 123 []) [] = some [(.str ⟨#[72, 73, 71, 72]⟩, .fn 123 [])] := upd_lit (ss := []) (by decide)
  have m52 : updA (.str ⟨#[76, 79, 87]⟩) (.fn 124 []) [(.str ⟨#[72, 73, 71, 72]⟩, .fn 123 [])] = some [(.str ⟨#[72, 73, 71, 72]⟩, .fn 123 []), (.str ⟨#[76, 79, 87]⟩, .fn 124 [])] := upd_lit (ss := [(⟨#[72, 73, 71, 72]⟩, .fn 123 [])]) (by decide)
  simp [isKey, m51, m52]
  intro bs53 cl54 hb55 hl56
  obtain ⟨es57, he58⟩ : ∃ es, es = zipB [(AV.str ⟨#[72, 73, 71, 72]⟩, AV.fn 123 []), (AV.str ⟨#[76, 79, 87]⟩, AV.fn 124 [])] bs53 := ⟨_, rfl⟩
  have ha59 : es57.all (fun e => e.2.2 < cl54) = true := by rw [he58]; exact born_all hb55
  have hk60 : ∀ e ∈ es57, ∃ s x, e.1 = .str s ∧ e.2.1 = .fn x [] ∧ s ≠ nameM := by
    intro e he
    rw [he58] at he
    have h1 := (zipB_mem he).1
    simp only [List.mem_cons, List.not_mem_nil, or_false, Prod.mk.injEq] at h1
    rcases h1 with ⟨h1, h2⟩ | ⟨h1, h2⟩ <;> exact ⟨_, _, h1, h2, by decide⟩
  rw [← he58]
  refine wpS_loopS (ι := List Nat × List (AV × AV) × Nat) (fun _ => [(0, .map S.length g), (38, .ptr (S.length + 4) (n49 + 1) 0)]) (fun s => ⟨S ++ [(g, .map s.2.1), (nx, .emap es43 cl40), (nx + 1, .iter (S.length + 1) (nx) cl40 seen47 cl40), (n49, .emap es57 cl54), (n49 + 1, .iter (S.length + 3) (n49) cl54 s.1 cl54)], s.2.2⟩)
    (fun s => (es57.filter fun x => !s.1.contains x.2.2).length) (fun s => TabM s.2.1) ([], L48, n49 + 2) t50 (Sim.of_le (Env.le_of (by simp)) (Mem.le_of rfl (by simp [take_part]))) ?_
  rintro ⟨seen61, L62, n63⟩ t64
  simp only at t64
  simp [ha59]
  refine next_split ?_ (fun e he hp => ?_)
  rotate_left
  · obtain ⟨e', he', hf⟩ := find_born he
    obtain ⟨s, x, hs, hx, hne⟩ := hk60 e' he'
    obtain ⟨L', u', t', f', g'⟩ := upd_tab s (rowA 1 1 (.fn 125 []) (.fn 126 [.ptr (S.length + 5) (n63) 0])) t64.1
    simp only [rowA] at u'
    have t'' : TabM L' := ⟨t', by rw [g' _ (Ne.symm hne)]; exact t64.2⟩
    
    have one : Value.nilFunc.oneCell' = true := rfl
    simp [hf, hs, hx, isKey, u', one]
    exact ⟨seen61 ++ [e.2.2], L', t'', n63 + 1, by simpa using unseen_less he (by simpa using hp), Sim.of_le (Env.le_of (by simp)) (Mem.le_of rfl (by simp [take_part]))⟩
  simp [cr46]
  exact ⟨⟨S ++ [(g, .map L62)], _⟩, Mem.le_of rfl (by simp [take_part]), _, ⟨_, rfl⟩, t64⟩
end Go.Pm

/- BkT1: the table of built-in functions: what of all its rows is known. -/
namespace Go.Pm
open Go Go.Proofs
attribute [-simp] List.getElem?_map
attribute [simp] nilCheckA postA_norm

/-- What is known of a row: its bounds, its functions. -/
abbrev RKey := Int × Int × Option (FuncId × FuncId)
def RK : Option RKey → Option (Option AV) → Prop
  | none, r => r = some none
  | some (a, b, none), r => ∃ f cs g ds, r = some (some (rowA a b (.fn f cs) (.fn g ds)))
  | some (a, b, some (f, g)), r => r = some (some (rowA a b (.fn f []) (.fn g [])))
def lkF : List (ByteArray × RKey) → ByteArray → Option RKey
  | [], _ => none
  | (k', r) :: l, k => if k = k' then some r else lkF l k
def TabN (l : List (ByteArray × RKey)) (L : List (AV × AV)) : Prop := TabK L ∧ (L.map Prod.fst).Nodup ∧ ∀ k, RK (lkF l k) (findA (.str k) L)
/-- In a round over a map's entries. -/
def TabI (items l : List (ByteArray × RKey)) (es : List (AV × AV × Nat)) (seen : List Nat) (L : List (AV × AV)) : Prop :=
  TabK L ∧ (L.map Prod.fst).Nodup ∧ (∀ k, lkF items k = none → RK (lkF l k) (findA (.str k) L)) ∧ ∀ e ∈ es, e.2.2 ∈ seen → ∃ s r, e.1 = .str s ∧ lkF items s = some r ∧ RK (some r) (findA (.str s) L)

theorem lkF_app (l' : List (ByteArray × RKey)) (k : ByteArray) : ∀ l, lkF (l ++ l') k = match lkF l k with | some r => some r | none => lkF l' k
  | [] => rfl
  | (k', r) :: l => by
    rw [List.cons_append, lkF, lkF]
    split
    · rfl
    · exact lkF_app l' k l

theorem lkF_mem {k : ByteArray} {r : RKey} : ∀ {l : List (ByteArray × RKey)}, lkF l k = some r → k ∈ l.map Prod.fst
  | [], h => by cases h
  | (k', r') :: l, h => by
    rw [lkF] at h
    rw [List.map_cons]
    split at h
    · rename_i hk
      rw [hk]; exact List.mem_cons_self
    · exact List.mem_cons_of_mem _ (lkF_mem h)

theorem tabN_nil : TabN [] [] := ⟨fun e he => (by cases he), List.nodup_nil, fun k => rfl⟩

theorem upd_keys (k : ByteArray) (v : AV) : ∀ {L L' : List (AV × AV)}, TabK L → updA (.str k) v L = some L' → ∀ e ∈ L', e.1 = .str k ∨ e.1 ∈ L.map Prod.fst
  | [], L', _, h, e, he => by
    simp only [updA, Option.some.injEq] at h
    subst h
    rw [List.mem_singleton.1 he]; exact .inl rfl
  | (a, b) :: L, L', hT, h, e, he => by
    obtain ⟨s, hs⟩ := hT (a, b) (by simp)
    simp only at hs
    subst hs
    by_cases hk : k = s
    · subst hk
      simp only [updA, keyEq, beqB_t, Option.some.injEq] at h
      subst h
      rcases List.mem_cons.1 he with rfl | he
      · exact .inl rfl
      · exact .inr (by simp; exact .inr ⟨_, he⟩)
    · simp only [updA, keyEq, beqB_f hk, Option.map_eq_some_iff] at h
      obtain ⟨L2, h2, rfl⟩ := h
      rcases List.mem_cons.1 he with rfl | he
      · exact .inr (by simp)
      · rcases upd_keys k v (fun e he => hT e (by simp [he])) h2 e he with h | h
        · exact .inl h
        · exact .inr (by rw [List.map_cons]; exact List.mem_cons_of_mem _ h)

theorem upd_nodup (k : ByteArray) (v : AV) : ∀ {L L' : List (AV × AV)}, TabK L → (L.map Prod.fst).Nodup → updA (.str k) v L = some L' → (L'.map Prod.fst).Nodup
  | [], L', _, _, h => by
    simp only [updA, Option.some.injEq] at h
    subst h
    simp
  | (a, b) :: L, L', hT, hn, h => by
    obtain ⟨s, hs⟩ := hT (a, b) (by simp)
    simp only at hs
    subst hs
    rw [List.map_cons, List.nodup_cons] at hn
    by_cases hk : k = s
    · subst hk
      simp only [updA, keyEq, beqB_t, Option.some.injEq] at h
      subst h
      rw [List.map_cons, List.nodup_cons]
      exact hn
    · simp only [updA, keyEq, beqB_f hk, Option.map_eq_some_iff] at h
      obtain ⟨L2, h2, rfl⟩ := h
      have hT2 : TabK L := fun e he => hT e (by simp [he])
      rw [List.map_cons, List.nodup_cons]
      refine ⟨fun hm => ?_, upd_nodup k v hT2 hn.2 h2⟩
      obtain ⟨e, he, hs⟩ := List.mem_map.1 hm
      rcases upd_keys k v hT2 h2 e he with h | h
      · rw [hs] at h
        injection h with h
        exact hk h.symm
      · rw [hs] at h
        exact hn.1 h

theorem upd_tabN (k : ByteArray) (a b : Int) (f g : FuncId) {l : List (ByteArray × RKey)} {L : List (AV × AV)} (h : TabN l L) :
    ∃ L', updA (.str k) (rowA a b (.fn f []) (.fn g [])) L = some L' ∧ TabN ((k, a, b, some (f, g)) :: l) L' := by
  obtain ⟨L', h1, h2, h3, h4⟩ := upd_tab k (rowA a b (.fn f []) (.fn g [])) h.1
  refine ⟨L', h1, h2, upd_nodup k _ h.1 h.2.1 h1, fun k' => ?_⟩
  rw [lkF]
  split
  · rename_i hk
    subst hk
    exact h3
  · rename_i hk
    rw [h4 k' hk]
    exact h.2.2 k'

theorem upd_tabN0 (k : ByteArray) (a b : Int) (f : FuncId) (cs : List AV) (g : FuncId) (ds : List AV) {l : List (ByteArray × RKey)} {L : List (AV × AV)} (h : TabN l L) :
    ∃ L', updA (.str k) (rowA a b (.fn f cs) (.fn g ds)) L = some L' ∧ TabN ((k, a, b, none) :: l) L' := by
  obtain ⟨L', h1, h2, h3, h4⟩ := upd_tab k (rowA a b (.fn f cs) (.fn g ds)) h.1
  refine ⟨L', h1, h2, upd_nodup k _ h.1 h.2.1 h1, fun k' => ?_⟩
  rw [lkF]
  split
  · rename_i hk
    subst hk
    exact ⟨f, cs, g, ds, h3⟩
  · rename_i hk
    rw [h4 k' hk]
    exact h.2.2 k'

theorem tabI_start (items : List (ByteArray × RKey)) (es : List (AV × AV × Nat)) {l : List (ByteArray × RKey)} {L : List (AV × AV)} (h : TabN l L) : TabI items l es [] L :=
  ⟨h.1, h.2.1, fun k _ => h.2.2 k, fun e _ hs => by cases hs⟩

theorem tabI_step {items l : List (ByteArray × RKey)} {es : List (AV × AV × Nat)} {seen : List Nat} {L : List (AV × AV)} {e e' : AV × AV × Nat} {s : ByteArray} {a b : Int} (f : FuncId) (cs : List AV) (g : FuncId) (ds : List AV) (h : TabI items l es seen L)
    (hu : ∀ e1 ∈ es, e1.2.2 = e.2.2 → e1 = e') (hs : e'.1 = .str s) (hr : lkF items s = some (a, b, none)) :
    ∃ L', updA (.str s) (rowA a b (.fn f cs) (.fn g ds)) L = some L' ∧ TabI items l es (seen ++ [e.2.2]) L' := by
  obtain ⟨L', h1, h2, h3, h4⟩ := upd_tab s (rowA a b (.fn f cs) (.fn g ds)) h.1
  refine ⟨L', h1, h2, upd_nodup s _ h.1 h.2.1 h1, fun k hk => ?_, fun e1 he1 hm => ?_⟩
  · have hne : k ≠ s := fun e => by rw [e, hr] at hk; cases hk
    rw [h4 k hne]
    exact h.2.2.1 k hk
  · have key : ∀ t, e1.1 = .str t → (t = s ∨ (t ≠ s ∧ e1.2.2 ∈ seen)) → ∃ s' r, e1.1 = .str s' ∧ lkF items s' = some r ∧ RK (some r) (findA (.str s') L') := by
      intro t ht hc
      rcases hc with rfl | ⟨hne, hin⟩
      · exact ⟨t, _, ht, hr, f, cs, g, ds, h3⟩
      · obtain ⟨s', r, i1, i2, i3⟩ := h.2.2.2 e1 he1 hin
        rw [ht] at i1
        injection i1 with i1
        subst i1
        exact ⟨t, r, ht, i2, by rw [h4 t hne]; exact i3⟩
    rcases List.mem_append.1 hm with hm | hm
    · obtain ⟨s', r, i1, i2, i3⟩ := h.2.2.2 e1 he1 hm
      by_cases hss : s' = s
      · exact key s' i1 (.inl hss)
      · exact key s' i1 (.inr ⟨hss, hm⟩)
    · have := hu e1 he1 (List.mem_singleton.1 hm)
      subst this
      exact key s hs (.inl rfl)

theorem tabI_done {items l : List (ByteArray × RKey)} {es : List (AV × AV × Nat)} {seen : List Nat} {L : List (AV × AV)} (h : TabI items l es seen L) (hall : ∀ e ∈ es, e.2.2 ∈ seen) (hes : ∀ k r, lkF items k = some r → ∃ e ∈ es, e.1 = .str k) : TabN (items ++ l) L := by
  refine ⟨h.1, h.2.1, fun k => ?_⟩
  rw [lkF_app]
  cases hi : lkF items k with
  | none => exact h.2.2.1 k hi
  | some r =>
    obtain ⟨e, he, hk⟩ := hes k r hi
    obtain ⟨s, r', i1, i2, i3⟩ := h.2.2.2 e he (hall e he)
    rw [hk] at i1
    injection i1 with i1
    subst i1
    rw [hi] at i2
    injection i2 with i2
    subst i2
    exact i3

theorem zipB_births : ∀ {kv : List (AV × AV)} {bs : List Nat} {e : AV × AV × Nat}, e ∈ zipB kv bs → e.2.2 ∈ bs := fun h => (zipB_mem h).2
theorem zipB_uniq : ∀ {kv : List (AV × AV)} {bs : List Nat}, bs.Pairwise (· < ·) → ∀ e1 ∈ zipB kv bs, ∀ e2 ∈ zipB kv bs, e1.2.2 = e2.2.2 → e1 = e2
  | [], _, _, e1, h1, _, _, _ => by simp [zipB] at h1
  | _ :: _, [], _, e1, h1, _, _, _ => by simp [zipB] at h1
  | (k, v) :: kv, b :: bs, hp, e1, h1, e2, h2, he => by
    rw [List.pairwise_cons] at hp
    simp only [zipB] at h1 h2
    rcases List.mem_cons.1 h1 with rfl | h1 <;> rcases List.mem_cons.1 h2 with rfl | h2
    · rfl
    · have := hp.1 _ (zipB_births h2); simp only at he; omega
    · have := hp.1 _ (zipB_births h1); simp only at he; omega
    · exact zipB_uniq hp.2 e1 h1 e2 h2 he
theorem zipB_all : ∀ {kv : List (AV × AV)} {bs : List Nat}, bs.length = kv.length → ∀ k v, (k, v) ∈ kv → ∃ e ∈ zipB kv bs, e.1 = k
  | [], _, _, k, v, h => by cases h
  | _ :: _, [], hl, _, _, _ => by simp at hl
  | (k', v') :: kv, b :: bs, hl, k, v, h => by
    simp only [zipB]
    rcases List.mem_cons.1 h with h | h
    · injection h with h1 h2
      subst h1
      exact ⟨_, List.mem_cons_self, rfl⟩
    · obtain ⟨e, he, h2⟩ := zipB_all (kv := kv) (bs := bs) (by simpa using hl) k v h
      exact ⟨e, List.mem_cons_of_mem _ he, h2⟩

theorem find_born2 {es : List (AV × AV × Nat)} {e : AV × AV × Nat} (he : e ∈ es) (hu : ∀ e1 ∈ es, ∀ e2 ∈ es, e1.2.2 = e2.2.2 → e1 = e2) : es.find? (fun x => x.2.2 == e.2.2) = some e := by
  obtain ⟨e', h1, h2⟩ := find_born he
  have h3 := List.find?_some h2
  simp only [beq_iff_eq] at h3
  rw [h2, hu e' h1 e he h3]

theorem next_split2 {es : List (AV × AV × Nat)} {p p' : AV × AV × Nat → Bool} {f : AV × AV × Nat → AV × Mem} {m : Mem} {Q : AV → Mem → Prop} (h0 : (∀ e ∈ es, p e = false) → Q (.tuple [.bool false]) m) (h1 : ∀ e ∈ es, p' e = true → Q (f e).1 (f e).2) :
    AllN (if (es.filter p).isEmpty then [(.tuple [.bool false], m)] else (es.filter p').map f) Q := by
  split
  · rename_i he
    have he2 : ∀ e ∈ es, p e = false := by
      intro e hm
      have h2 := List.filter_eq_nil_iff.1 (List.isEmpty_iff.1 he) e hm
      simpa using h2
    exact AllN_iff.2 fun v m' hm => by
      rcases List.mem_singleton.1 hm with h
      injection h with h2 h3
      subst h2; subst h3; exact h0 he2
  · refine AllN_iff.2 fun v m' hm => ?_
    obtain ⟨e, he, hf⟩ := List.mem_map.1 hm
    obtain ⟨he1, he2⟩ := List.mem_filter.1 he
    have := h1 e he1 he2
    rw [hf] at this
    exact this
end Go.Pm
