/- LkO: texts are in order. -/
import Derived.Test.YtolfkdphlgkekaaMc
namespace Go.Pm
open Go Go.Proofs

theorem less_irrefl : ∀ x : List UInt8, Op.bytesLess x x = false
  | [] => rfl
  | a :: x => by
    rw [Op.bytesLess, less_irrefl x]
    simp
theorem less_trans : ∀ x y z : List UInt8, Op.bytesLess x y = true → Op.bytesLess y z = true → Op.bytesLess x z = true
  | x, [], z, h, _ => by cases x <;> simp [Op.bytesLess] at h
  | [], b :: y, [], _, h => by simp [Op.bytesLess] at h
  | [], b :: y, c :: z, _, _ => by simp [Op.bytesLess]
  | a :: x, b :: y, [], _, h => by simp [Op.bytesLess] at h
  | a :: x, b :: y, c :: z, h1, h2 => by
    simp only [Op.bytesLess, Bool.or_eq_true, Bool.and_eq_true, decide_eq_true_eq, beq_iff_eq, UInt8.lt_iff_toNat_lt] at h1 h2 ⊢
    rcases h1 with h1 | ⟨rfl, h1⟩
    · rcases h2 with h2 | ⟨rfl, h2⟩
      · exact .inl (by omega)
      · exact .inl h1
    · rcases h2 with h2 | ⟨rfl, h2⟩
      · exact .inl h2
      · exact .inr ⟨rfl, less_trans x y z h1 h2⟩
theorem less_tri : ∀ x y : List UInt8, Op.bytesLess x y = true ∨ x = y ∨ Op.bytesLess y x = true
  | [], [] => .inr (.inl rfl)
  | [], b :: y => .inl rfl
  | a :: x, [] => .inr (.inr rfl)
  | a :: x, b :: y => by
    simp only [Op.bytesLess, Bool.or_eq_true, Bool.and_eq_true, decide_eq_true_eq, beq_iff_eq, UInt8.lt_iff_toNat_lt, List.cons.injEq]
    rcases Nat.lt_trichotomy a.toNat b.toNat with h | h | h
    · exact .inl (.inl h)
    · have e : a = b := UInt8.toNat_inj.1 h
      subst e
      rcases less_tri x y with h | h | h
      · exact .inl (.inr ⟨rfl, h⟩)
      · exact .inr (.inl ⟨rfl, h⟩)
      · exact .inr (.inr (.inr ⟨rfl, h⟩))
    · exact .inr (.inr (.inl h))
theorem less_asymm (x y : List UInt8) (h : Op.bytesLess x y = true) : Op.bytesLess y x = false := by
  cases h2 : Op.bytesLess y x with
  | false => rfl
  | true => have := less_trans _ _ _ h h2; rw [less_irrefl] at this; cases this

theorem toList_inj {a b : ByteArray} (h : a.toList = b.toList) : a = b := eqS_t.1 (by unfold eqS; rw [h]; exact beq_self_eq_true _)
theorem ltS_irrefl (a : ByteArray) : ltS a a = false := less_irrefl _
theorem ltS_trans {a b c : ByteArray} (h : ltS a b = true) (h' : ltS b c = true) : ltS a c = true := less_trans _ _ _ h h'
theorem ltS_asymm {a b : ByteArray} (h : ltS a b = true) : ltS b a = false := less_asymm _ _ h
theorem ltS_tri (a b : ByteArray) : ltS a b = true ∨ a = b ∨ ltS b a = true := by
  rcases less_tri a.toList b.toList with h | h | h
  · exact .inl h
  · exact .inr (.inl (toList_inj h))
  · exact .inr (.inr h)
end Go.Pm

/- LkSo: definitions sorted by name. -/
namespace Go.Pm
open Go Go.Proofs
attribute [-simp] List.getElem?_map

def sortD (ds : List DDef) : List DDef := ds.foldl definedF []
theorem insPos_le (l : List DDef) (n : ByteArray) : insPos l n ≤ l.length := by
  unfold insPos
  exact (List.takeWhile_prefix _).length_le
theorem definedF_perm {l : List DDef} {d : DDef} (h : d.name ∉ l.map (·.name)) : (definedF l d).Perm (l ++ [d]) := by
  have hne : ¬ (insPos l d.name < l.length ∧ eqS (ix l (insPos l d.name)).name d.name = true) := by
    rintro ⟨h1, h2⟩
    exact h (List.mem_map.2 ⟨_, ix_mem h1, eqS_t.1 h2⟩)
  unfold definedF
  rw [if_neg hne]
  have h1 : (List.take (insPos l d.name) l ++ d :: List.drop (insPos l d.name) l).Perm (d :: (List.take (insPos l d.name) l ++ List.drop (insPos l d.name) l)) := List.perm_middle
  rw [List.take_append_drop] at h1
  exact h1.trans (List.perm_append_comm (l₁ := [d]) (l₂ := l))
theorem sortD_from : ∀ {ds acc : List DDef}, ((acc ++ ds).map (·.name)).Nodup → (ds.foldl definedF acc).Perm (acc ++ ds)
  | [], acc, _ => by simp
  | d :: ds, acc, h => by
    rw [List.foldl_cons]
    have hn : d.name ∉ acc.map (·.name) := by
      rw [List.map_append, List.nodup_append] at h
      intro hm
      exact h.2.2 _ hm _ (by simp) rfl
    have hp := definedF_perm hn
    have e : acc ++ d :: ds = (acc ++ [d]) ++ ds := by simp
    have hp2 : (definedF acc d ++ ds).Perm (acc ++ d :: ds) := by rw [e]; exact hp.append_right ds
    have h' : ((definedF acc d ++ ds).map (·.name)).Nodup := (hp2.map (·.name)).nodup_iff.2 h
    exact (sortD_from h').trans hp2
theorem sortD_perm {ds : List DDef} (h : (ds.map (·.name)).Nodup) : (sortD ds).Perm ds := by
  have := sortD_from (ds := ds) (acc := []) (by simpa using h)
  simpa [sortD] using this
theorem sortD_len {ds : List DDef} (h : (ds.map (·.name)).Nodup) : (sortD ds).length = ds.length := (sortD_perm h).length_eq


def LtD (a b : DDef) : Prop := ltS a.name b.name = true
theorem take_while_all {α : Type} {p : α → Bool} : ∀ {l : List α}, ∀ x ∈ l.take (l.takeWhile p).length, p x = true
  | [], x, h => by simp at h
  | a :: l, x, h => by
    rw [List.takeWhile_cons] at h
    split at h
    · rename_i ha
      rw [List.length_cons, List.take_succ_cons] at h
      rcases List.mem_cons.1 h with rfl | h
      · exact ha
      · exact take_while_all x h
    · simp at h
theorem drop_while_head {α : Type} {p : α → Bool} : ∀ {l : List α} {x : α} {r : List α}, l.drop (l.takeWhile p).length = x :: r → p x = false
  | [], x, r, h => by simp at h
  | a :: l, x, r, h => by
    rw [List.takeWhile_cons] at h
    split at h
    · rw [List.length_cons, List.drop_succ_cons] at h
      exact drop_while_head h
    · rename_i ha
      rw [List.length_nil, List.drop_zero] at h
      injection h with h1 h2
      subst h1
      simpa using ha
theorem definedF_sorted {l : List DDef} {d : DDef} (hs : l.Pairwise LtD) : (definedF l d).Pairwise LtD := by
  unfold definedF
  split
  · exact hs
  · rename_i hne
    have hsp : l = l.take (insPos l d.name) ++ l.drop (insPos l d.name) := (List.take_append_drop _ _).symm
    have hs2 := hs
    rw [hsp, List.pairwise_append] at hs2
    obtain ⟨h1, h2, h3⟩ := hs2
    rw [List.pairwise_append, List.pairwise_cons]
    have ht : ∀ x ∈ l.take (insPos l d.name), LtD x d := fun x hx => take_while_all (p := fun x : DDef => ltS x.name d.name) (l := l) x (by exact hx)
    have hd : ∀ x ∈ l.drop (insPos l d.name), LtD d x := by
      cases hdr : l.drop (insPos l d.name) with
      | nil => simp
      | cons y r =>
        have hy : ltS y.name d.name = false := drop_while_head (p := fun x : DDef => ltS x.name d.name) (l := l) (by exact hdr)
        have hlt : insPos l d.name < l.length := by
          have := congrArg List.length hdr
          simp at this
          omega
        have hix : ix l (insPos l d.name) = y := by
          have := drop_ix hlt
          rw [hdr] at this
          injection this with h _
          exact h.symm
        have hyd : LtD d y := by
          rcases ltS_tri y.name d.name with h | h | h
          · rw [h] at hy; cases hy
          · exact absurd ⟨hlt, by rw [hix]; exact eqS_t.2 h⟩ hne
          · exact h
        rw [hdr, List.pairwise_cons] at h2
        intro x hx
        rcases List.mem_cons.1 hx with rfl | hx
        · exact hyd
        · exact ltS_trans hyd (h2.1 x hx)
    exact ⟨h1, ⟨hd, h2⟩, fun a ha b hb => by
      rcases List.mem_cons.1 hb with rfl | hb
      · exact ht a ha
      · exact h3 a ha b hb⟩
theorem foldl_sorted : ∀ {ds acc : List DDef}, acc.Pairwise LtD → (ds.foldl definedF acc).Pairwise LtD
  | [], _, h => h
  | d :: ds, acc, h => by rw [List.foldl_cons]; exact foldl_sorted (definedF_sorted h)
theorem sortD_sorted (ds : List DDef) : (sortD ds).Pairwise LtD := foldl_sorted List.Pairwise.nil
theorem LtD_antisymm {a b : DDef} (h : LtD a b) (h' : LtD b a) : a = b := by
  unfold LtD at h h'
  rw [ltS_asymm h] at h'; cases h'
/-- There is one sorted permutation. -/
theorem sorted_unique {l l' : List DDef} (h : l.Pairwise LtD) (h' : l'.Pairwise LtD) (hp : l.Perm l') : l = l' := List.Perm.eq_of_pairwise (fun _ _ _ _ h1 h2 => LtD_antisymm h1 h2) h h' hp
end Go.Pm
