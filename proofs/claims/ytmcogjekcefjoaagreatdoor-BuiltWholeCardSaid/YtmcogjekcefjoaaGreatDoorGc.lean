/- BkC1: contracts: digits of a number, without zeros above, how two compare. -/
import Derived.Test.YtmcogjekcefjoaaGreatDoorGa
import Derived.Test.YtmcogjekcefjoaaGreatDoorGb
namespace Go.Pm
open Go Go.Proofs
attribute [-simp] List.getElem?_map

theorem app_dig {L : List (List AV)} {x : AV} {k g nx : Nat} (hL : L.length = k) (hk : k ≤ 140737488355327) : appendA 5 1 1 ⟨[(g, .row 5 1 L), (nx, .row 5 1 [[x]])], nx + 1⟩ (.row 0 g 1 0 k) (.row 1 nx 1 0 1) = some (.row 0 (nx + 1) 1 0 (k + 1), ⟨[(nx + 1, .row 5 1 (L ++ [[x]])), (nx, .row 5 1 [[x]])], nx + 2⟩) := by
  subst hL
  have h2 : L.length + 1 ≤ 9223372036854775807 := by omega
  simp [appendA, appendN, elsOf, Mem.obj, Mem.turn, h2]
  omega

theorem app_list {L ys : List (List AV)} {k g nx : Nat} (hL : L.length = k) (hk : k + ys.length ≤ 140737488355327) : appendA 5 1 1 ⟨[(g, .row 5 1 L)], nx⟩ (.row 0 g 1 0 k) (.list true 1 ys) = some (.row 0 nx 1 0 (k + ys.length), ⟨[(nx, .row 5 1 (L ++ ys))], nx + 1⟩) := by
  subst hL
  have h2 : L.length + ys.length ≤ 9223372036854775807 := by omega
  simp [appendA, appendN, elsOf, Mem.obj, Mem.turn, h2]
  omega

theorem wrap8 {n : Int} (h0 : 0 ≤ n) (h : n < 256) : IntKind.u8.wrap n = n := by
  simp [IntKind.wrap, IntKind.signed, IntKind.bits]
  omega

theorem call52 (n : Nat) (hn : n ≤ 9223372036854775807) : PCalls Bk.pg 52 [.int .i64 n] fun out => out = .ret (.list true 1 (dl (digs n))) := by
  refine ok52.pcalls (by simp) ?_
  simp [c52]
  refine wpS_loopS (ι := List Nat × Nat × Nat × Nat) (fun g => [(0, .int .i64 (g.2.1 : Nat)), (3, .row 0 g.2.2.1 1 0 g.1.length)]) (fun g => ⟨[(g.2.2.1, .row 5 1 (dl g.1))], g.2.2.2⟩) (fun g => g.2.1)
    (fun g => g.1 ++ digs g.2.1 = digs n ∧ g.2.1 ≤ 9223372036854775807) ([], n, 0, 1) ⟨rfl, hn⟩ (Sim.trans (Sim.of_le (Env.le_of (by simp)) (Mem.le_of rfl (by simp))) (Sim.nil_env 3 5 (sz := 1) (by decide) (by simp))) ?_
  rintro ⟨L, r, g, nx⟩ ⟨hL, hr⟩
  simp only at hL hr
  have hlen : (digs n).length ≤ 19 := digs_len 19 n (by omega)
  have hLlen : L.length ≤ 19 := by rw [← hL, List.length_append] at hlen; omega
  simp
  refine br_cond rfl (fun h => ?_) (fun h => ?_)
  · have hpos : 0 < r := by have := ltI_t.1 h; omega
    have e1 : IntKind.u8.wrap ((r : Int).tmod 10) = ((r % 10 : Nat) : Int) := by
      rw [Int.tmod_eq_emod_of_nonneg (by omega), wrap8 (by omega) (by omega)]; omega
    have e2 : IntKind.i64.wrap ((r : Int) / 10) = (r : Int) / 10 := wrap64 (by omega) (by omega)
    simp
    rw [app_dig (dl_len L) (by omega), e1]
    simp [e2]
    refine ⟨L ++ [r % 10], r / 10, ⟨?_, by omega⟩, by omega, nx + 1, nx + 2, Sim.of_le (Env.le_of (by simp)) (Mem.le_of rfl ?_)⟩
    · rw [← hL, digs_pos hpos]; simp
    · simp [dl]
  · have h0 : r = 0 := by have := ltI_f.1 h; omega
    subst h0
    rw [digs_zero, List.append_nil] at hL
    simp [cr52]
    have e : (dl L).take L.length = dl L := List.take_of_length_le (by simp)
    rw [e]
    exact ⟨dl_perm L, by rw [hL]⟩

theorem trimD_take {l : List Nat} {k : Nat} (h : k < l.length) (h0 : ix l k = 0) : trimD (l.take (k + 1)) = trimD (l.take k) := by
  rw [take_ix h, h0, trimD_snoc0]
theorem trimD_take' {l : List Nat} {k : Nat} (h : k < l.length) (h0 : ix l k ≠ 0) : trimD (l.take (k + 1)) = l.take (k + 1) := by
  rw [take_ix h, trimD_snoc h0]

theorem call259 (l : List Nat) (hl : l.length ≤ 140737488355327) : PCalls Bk.pg 259 [.list true 1 (dl l)] fun out => out = .ret (.list true 1 (dl (trimD l))) := by
  refine ok259.pcalls (by simp) ?_
  simp [c259]
  refine wpS_loop (ι := Nat) (fun k => [(0, .list true 1 (dl (l.take k)))]) (fun _ => ⟨[], 0⟩) (fun k => k)
    (fun k => k ≤ l.length ∧ trimD (l.take k) = trimD l) l.length ⟨Nat.le_refl _, by rw [List.take_length]⟩ (Env.le_of (by simp)) (by simp) ?_
  rintro k ⟨hk, ht⟩
  have e : (l.take k).length = k := by rw [List.length_take]; omega
  simp [e]
  refine br_guard_t rfl (fun h => ?_) (fun h => ?_)
  · obtain ⟨j, hj⟩ : ∃ j, k = j + 1 := ⟨k - 1, by have := ltI_t.1 h; omega⟩
    have hw : IntKind.i64.wrap ((k : Int) - 1) = j := by rw [wrap64 (by omega) (by omega)]; omega
    have hix : (dl (l.take k))[j]? = some [AV.int .u8 ((ix l j : Nat) : Int)] := by
      rw [dl_ix (ltN (by omega))]
      simp [ix, List.getD, List.getElem?_take, hj]
    simp [h, hw, hix, e]
    refine br_cond rfl (fun h2 => ?_) (fun h2 => ?_)
    · have h0 : ix l j = 0 := by have := eqI_t.1 h2; omega
      have hs : sliceA false true 1 [.list true 1 (dl (l.take k)), .int .i64 j] = some (.list true 1 (dl (l.take j))) := by
        have h1 : j ≤ l.length := by omega
        have h2 : min j k = j := by omega
        have h3 : j ≤ min k l.length := by omega
        simp [sliceA, boundsA, dl_take, List.take_take, h2, h3]
      simp [e, hw, hs]
      refine ⟨j, ⟨by omega, ?_⟩, by omega, Env.le_of (by simp), Mem.le_of rfl (by simp)⟩
      rw [← ht, hj, trimD_take (by omega) h0]
    · have h0 : ix l j ≠ 0 := fun h0 => by rw [h0] at h2; cases h2
      simp [cr259]
      rw [← ht, hj, trimD_take' (by omega) h0]
  · have h0 : k = 0 := by have := ltI_f.1 h; omega
    have : trimD l = [] := by rw [← ht, h0]; rfl
    simp [h]
    simp [cr259, this, h0]

def cmpAux (a b : List Nat) : Nat → Int
  | 0 => 0
  | k + 1 => if ix a k = ix b k then cmpAux a b k else ((ix a k : Nat) : Int) - ((ix b k : Nat) : Int)
/-- Which of two numbers is greater. -/
def cmpD (a b : List Nat) : Int := if a.length = b.length then cmpAux a b a.length else (a.length : Int) - b.length

theorem call257 (a b : List Nat) (ha : a.length ≤ 140737488355327) (hb : b.length ≤ 140737488355327) (da : Dg a) (db : Dg b) : PCalls Bk.pg 257 [.list true 1 (dl a), .list true 1 (dl b)] fun out => out = .ret (.int .i64 (cmpD a b)) := by
  refine ok257.pcalls (by simp) ?_
  simp [c257]
  refine br_cond rfl (fun h => ?_) (fun h => ?_)
  · have h' : a.length ≠ b.length := fun h1 => by rw [h1] at h; simp [eqI] at h
    have hw : IntKind.i64.wrap ((a.length : Int) - b.length) = (a.length : Int) - b.length := wrap64 (by omega) (by omega)
    simp [cr257, hw, cmpD, h']
  have h' : a.length = b.length := by have := eqI_t.1 (by simpa using h); omega
  have hw0 : IntKind.i64.wrap ((a.length : Int) - 1) = (a.length : Int) - 1 := wrap64 (by omega) (by omega)
  simp [hw0]
  refine wpS_loop (ι := Nat) (fun k => [(0, .list true 1 (dl a)), (1, .list true 1 (dl b)), (5, .int .i64 ((k : Int) - 1))]) (fun _ => ⟨[], 0⟩) (fun k => k)
    (fun k => k ≤ a.length ∧ cmpAux a b k = cmpAux a b a.length) a.length ⟨Nat.le_refl _, rfl⟩ (Env.le_of (by simp)) (by simp) ?_
  rintro k ⟨hk, ht⟩
  simp
  refine br_cond rfl (fun h => ?_) (fun h => ?_)
  · obtain ⟨j, rfl⟩ : ∃ j, k = j + 1 := ⟨k - 1, by have := leI_t.1 h; omega⟩
    have e1 : (((j + 1 : Nat) : Int) - 1) = j := by omega
    simp only [e1] at h ⊢
    have ea := dl_ix (l := a) (ltN (i := j) (by omega))
    have eb := dl_ix (l := b) (ltN (i := j) (by omega))
    simp [ea, eb]
    have hda : ix a j < 10 := da _ (ix_mem (by omega))
    have hdb : ix b j < 10 := db _ (ix_mem (by omega))
    have wa : IntKind.i64.wrap ((ix a j : Nat) : Int) = (ix a j : Nat) := wrap64 (by omega) (by omega)
    have wb : IntKind.i64.wrap ((ix b j : Nat) : Int) = (ix b j : Nat) := wrap64 (by omega) (by omega)
    have wc : IntKind.i64.wrap (((ix a j : Nat) : Int) - (ix b j : Nat)) = ((ix a j : Nat) : Int) - (ix b j : Nat) := wrap64 (by omega) (by omega)
    have wj : IntKind.i64.wrap ((j : Int) - 1) = (j : Int) - 1 := wrap64 (by omega) (by omega)
    refine br_cond rfl (fun h2 => ?_) (fun h2 => ?_)
    · have hne : ix a j ≠ ix b j := fun h3 => by rw [h3] at h2; simp [eqI] at h2
      have hc : cmpD a b = ((ix a j : Nat) : Int) - (ix b j : Nat) := by
        rw [cmpD, if_pos h', ← ht, cmpAux, if_neg hne]
      simp [ea, eb, wa, wb, wc, cr257, hc]
    · have heq : ix a j = ix b j := by have := eqI_t.1 (by simpa using h2); omega
      simp [wj]
      refine ⟨j, ⟨by omega, ?_⟩, by omega, Env.le_of (by simp), Mem.le_of rfl (by simp)⟩
      rw [← ht, cmpAux, if_pos heq]
  · have h0 : k = 0 := by have := leI_f.1 h; omega
    have hc : cmpD a b = 0 := by rw [cmpD, if_pos h', ← ht, h0]; rfl
    simp [cr257, hc]

/-- A copy. -/
theorem call320 (l : List Nat) (hl : l.length ≤ 140737488355327) : PCalls Bk.pg 320 [.list true 1 (dl l)] fun out => out = .ret (.list true 1 (dl l)) := by
  refine PCalls.nilRet (R := fun out => out = .ret (.list true 1 (dl l)) ∨ l = [] ∧ out = .ret .nilS) 1 ?_ ?_
  · refine ok320.pcalls (by simp) ?_
    simp [c320]
    split
    · rename_i h
      have h' : l = [] := by simpa [dl] using h
      subst h'
      simp [AllN, dl, cr320]
      rw [app_list (L := []) (ys := []) (k := 0) rfl (by decide)]
      simp
    · simp [AllN]
      rw [app_list (L := []) (ys := dl l) (k := 0) rfl (by simpa using hl)]
      simp [cr320]
      rw [List.take_of_length_le (by simp)]
      exact ⟨_, ⟨dl_perm l, rfl⟩, .inl rfl⟩
  · rintro out (rfl | ⟨rfl, rfl⟩)
    · exact .inl rfl
    · exact .inr ⟨rfl, rfl⟩

/-- Multiplied by a power of ten. -/
theorem call243 (l : List Nat) (n : Nat) (hn : n + l.length ≤ 140737488355327) : PCalls Bk.pg 243 [.list true 1 (dl l), .int .i64 n] fun out => out = .ret (.list true 1 (dl (if l = [] then [] else List.replicate n 0 ++ l))) := by
  refine PCalls.nilRet (R := fun out => l ≠ [] ∧ out = .ret (.list true 1 (dl (List.replicate n 0 ++ l))) ∨ l = [] ∧ out = .ret .nilS) 1 ?_ ?_
  · refine ok243.pcalls (by simp) ?_
    simp [c243]
    refine br_cond rfl (fun h => ?_) (fun h => ?_)
    · have h0 : l = [] := List.eq_nil_of_length_eq_zero (by have := eqI_t.1 h; omega)
      simp [cr243, h0]
    · have h0 : l ≠ [] := fun h0 => by rw [h0] at h; cases h
      have h1 : n ≤ 140737488355328 := by omega
      have h2 : (n : Int) ≤ 9223372036854775807 := by omega
      simp [h1, h2]
      rw [app_list (by simp) (by simpa using hn)]
      simp [cr243, h0]
      have e : List.replicate n [AV.int .u8 0] ++ dl l = dl (List.replicate n 0 ++ l) := by simp [dl]
      rw [e, List.take_of_length_le (by simp)]
      exact ⟨dl_perm _, rfl⟩
  · rintro out (⟨h, rfl⟩ | ⟨rfl, rfl⟩)
    · exact .inl (by rw [if_neg h])
    · exact .inr ⟨rfl, rfl⟩

theorem call244 (l : List Nat) (n : Nat) (hl : l.length ≤ 140737488355327) (hn : n ≤ 140737488355327) : PCalls Bk.pg 244 [.list true 1 (dl l), .int .i64 n] fun out => out = .ret (.list true 1 (dl (l.drop n))) := by
  have h320 := call320 (l.drop n) (by rw [List.length_drop]; omega)
  refine PCalls.nilRet (R := fun out => out = .ret (.list true 1 (dl (l.drop n))) ∨ l.drop n = [] ∧ out = .ret .nilS) 1 ?_ ?_
  · refine ok244.pcalls (by simp) ?_
    simp [c244]
    refine br_cond rfl (fun h => ?_) (fun h => ?_)
    · have h0 : l.length ≤ n := by have := leI_t.1 h; omega
      simp [cr244, h0]
    · have h0 : n ≤ l.length := by have := leI_f.1 h; omega
      have hs : sliceA true false 1 [.list true 1 (dl l), .int .i64 n] = some (.list true 1 (dl (l.drop n))) := by
        simp [sliceA, boundsA, h0, dl_drop]
        rw [List.take_of_length_le (by simp)]
      simp [hs]
      refine xcall_p h320 (by simp) ?_
      simp [cr244]
  · rintro out (rfl | ⟨h, rfl⟩)
    · exact .inl rfl
    · exact .inr ⟨rfl, by rw [h]; rfl⟩

theorem clone_row (l : List Nat) (hl : l.length ≤ 140737488355327) : ACalls Bk.pg 320 [.list true 1 (dl l)] ⟨[], 0⟩ fun out m' => l = [] ∧ out = .ret .nilS ∧ m' = ⟨[], 0⟩ ∨ out = .ret (.row 0 1 1 0 l.length) ∧ m' = ⟨[(1, .row 5 1 (dl l))], 2⟩ := by
  refine ok320.acalls (by simp) ?_
  simp [c320]
  split
  · rename_i h
    have h' : l = [] := by simpa [dl] using h
    subst h'
    simp [AllN, dl, cr320]
    rw [app_list (L := []) (ys := []) (k := 0) rfl (by decide)]
    simp
  · simp [AllN]
    rw [app_list (L := []) (ys := dl l) (k := 0) rfl (by simpa using hl)]
    simp [cr320]

/-- A difference, digit by digit. -/
def lessL : List Nat → List Nat → Nat → List Nat
  | [], _, _ => []
  | x :: a, b, c => if x < c + b.headD 0 then (x + 10 - (c + b.headD 0)) :: lessL a b.tail 1 else (x - (c + b.headD 0)) :: lessL a b.tail 0

theorem lessL_len : ∀ (a b : List Nat) (c : Nat), (lessL a b c).length = a.length
  | [], _, _ => rfl
  | x :: a, b, c => by unfold lessL; split <;> simp [lessL_len a]

theorem call253 (a b : List Nat) (ha : a.length ≤ 140737488355327) (hb : b.length ≤ 140737488355327) (da : Dg a) (db : Dg b) : PCalls Bk.pg 253 [.list true 1 (dl a), .list true 1 (dl b)] fun out => out = .ret (.list true 1 (dl (trimD (lessL a b 0)))) := by
  refine ok253.pcalls (by simp) ?_
  simp [c253]
  refine xcall_r (clone_row a ha) ?_ ?_
  · rintro v m' (⟨rfl, hv, rfl⟩ | ⟨hv, rfl⟩)
    · cases hv
      simp
      refine wpS_loopS (ι := Unit) (fun _ => [(5, .nilS), (12, .int .i64 0), (13, .int .i64 0)]) (fun _ => ⟨[], 0⟩) (fun _ => 0) (fun _ => True) () trivial (Sim.of_le (Env.le_of (by simp)) (Mem.le_of rfl (by simp))) ?_
      rintro _ _
      have z : ltI 0 0 = false := rfl
      simp [z]
      refine xcall_p (PCalls.sub (call259 [] (by simp)) (Sub.nil (Sub.refl []))) rfl ?_
      simp [cr253, lessL]
    · cases hv
      simp
      refine wpS_loopS (ι := Nat × List Nat × Nat) (fun s => [(1, .list true 1 (dl b)), (5, .row 0 1 1 0 a.length), (6, .int .u8 (s.2.2 : Nat)), (12, .int .i64 a.length), (13, .int .i64 (s.1 : Nat))]) (fun s => ⟨[(1, .row 5 1 (dl s.2.1))], 2⟩) (fun s => a.length - s.1)
        (fun s => s.1 ≤ a.length ∧ s.2.1.length = a.length ∧ s.2.1.drop s.1 = a.drop s.1 ∧ s.2.1.take s.1 ++ lessL (a.drop s.1) (b.drop s.1) s.2.2 = lessL a b 0 ∧ s.2.2 ≤ 1) (0, a, 0) ⟨Nat.zero_le _, rfl, rfl, rfl, Nat.zero_le _⟩ (Sim.of_le (Env.le_of (by simp)) (Mem.le_of rfl (by simp))) ?_
      rintro ⟨i, S, c⟩ ⟨hi, hS, hd, ht, hc⟩
      simp only at hi hS hd ht hc
      simp
      refine br_cond rfl (fun h => ?_) (fun h => ?_)
      · have hlt : i < a.length := by have := ltI_t.1 h; omega
        have hSd : (dl S)[i]? = some [AV.int .u8 ((ix S i : Nat) : Int)] := dl_ix (ltN (by omega))
        have hSa : ix S i = ix a i := by
          have h1 := drop_ix (l := S) (i := i) (by omega)
          have h2 := drop_ix (l := a) (i := i) hlt
          rw [h1, h2] at hd
          exact (List.cons.inj hd).1
        have hai : ix a i < 10 := da _ (ix_mem hlt)
        have hwi : IntKind.i64.wrap ((i : Int) + 1) = (i : Int) + 1 := wrap64 (by omega) (by omega)
        have next : S.drop (i + 1) = a.drop (i + 1) := by
          have := congrArg List.tail hd
          rwa [List.tail_drop, List.tail_drop] at this
        have hset : ∀ v : List AV, ((dl S).set i v)[i]? = some v := dl_setK S (by omega)
        have hb0 : ∀ d : Nat, d = c + (b.drop i).headD 0 → lessL (a.drop i) (b.drop i) c = if ix a i < d then (ix a i + 10 - d) :: lessL (a.drop (i + 1)) (b.drop (i + 1)) 1 else (ix a i - d) :: lessL (a.drop (i + 1)) (b.drop (i + 1)) 0 := by
          rintro d rfl
          rw [drop_ix hlt, lessL, List.tail_drop]
        simp
        refine br_cond rfl (fun h2 => ?_) (fun h2 => ?_)
        · have hltb : i < b.length := by have := ltI_t.1 h2; omega
          have hbi : ix b i < 10 := db _ (ix_mem hltb)
          obtain ⟨d, hdd⟩ : ∃ d, d = c + ix b i := ⟨_, rfl⟩
          have hwd : IntKind.u8.wrap ((c : Int) + (ix b i : Nat)) = (d : Int) := by rw [wrap8 (by omega) (by omega)]; omega
          have hd10 : d ≤ 10 := by omega
          have hdk : d = c + (b.drop i).headD 0 := by rw [drop_ix hltb]; exact hdd
          have hbd := dl_ix (l := b) (ltN (i := i) hltb)
          simp [hbd, hwd, h, hSd, hSa]
          refine br_cond rfl (fun h3 => ?_) (fun h3 => ?_)
          · have hlx : ix a i < d := by have := ltI_t.1 h3; omega
            have w1 : IntKind.u8.wrap (((ix a i : Nat) : Int) + 10) = ((ix a i : Nat) : Int) + 10 := wrap8 (by omega) (by omega)
            have w2 : IntKind.u8.wrap (((ix a i : Nat) : Int) + 10 - d) = ((ix a i + 10 - d : Nat) : Int) := by rw [wrap8 (by omega) (by omega)]; omega
            simp [h, hSd, hSa, w1, hset]
            rw [w2, dl_set]
            refine ⟨i + 1, S.set i (ix a i + 10 - d), 1, ⟨by omega, by rw [List.length_set]; exact hS, by rw [drop_set, next], ?_, by omega⟩, by omega, Sim.of_le (Env.le_of (by simp [hwi])) (Mem.le_of rfl (by simp))⟩
            rw [take_set (by omega), ← ht, hb0 d hdk, if_pos hlx]; simp
          · have hlx : ¬ ix a i < d := by have := ltI_f.1 h3; omega
            have w2 : IntKind.u8.wrap (((ix a i : Nat) : Int) - d) = ((ix a i - d : Nat) : Int) := by rw [wrap8 (by omega) (by omega)]; omega
            simp [h, hSd, hSa]
            rw [w2, dl_set]
            refine ⟨i + 1, S.set i (ix a i - d), 0, ⟨by omega, by rw [List.length_set]; exact hS, by rw [drop_set, next], ?_, by omega⟩, by omega, Sim.of_le (Env.le_of (by simp [hwi])) (Mem.le_of rfl (by simp))⟩
            rw [take_set (by omega), ← ht, hb0 d hdk, if_neg hlx]; simp
        · have hltb : b.length ≤ i := by have := ltI_f.1 h2; omega
          obtain ⟨d, rfl⟩ : ∃ d, d = c := ⟨_, rfl⟩
          have hd10 : d ≤ 10 := by omega
          have hdk : d = d + (b.drop i).headD 0 := by rw [List.drop_eq_nil_of_le hltb]; rfl
          simp [h, hSd, hSa]
          refine br_cond rfl (fun h3 => ?_) (fun h3 => ?_)
          · have hlx : ix a i < d := by have := ltI_t.1 h3; omega
            have w1 : IntKind.u8.wrap (((ix a i : Nat) : Int) + 10) = ((ix a i : Nat) : Int) + 10 := wrap8 (by omega) (by omega)
            have w2 : IntKind.u8.wrap (((ix a i : Nat) : Int) + 10 - d) = ((ix a i + 10 - d : Nat) : Int) := by rw [wrap8 (by omega) (by omega)]; omega
            simp [h, hSd, hSa, w1, hset]
            rw [w2, dl_set]
            refine ⟨i + 1, S.set i (ix a i + 10 - d), 1, ⟨by omega, by rw [List.length_set]; exact hS, by rw [drop_set, next], ?_, by omega⟩, by omega, Sim.of_le (Env.le_of (by simp [hwi])) (Mem.le_of rfl (by simp))⟩
            rw [take_set (by omega), ← ht, hb0 d hdk, if_pos hlx]; simp
          · have hlx : ¬ ix a i < d := by have := ltI_f.1 h3; omega
            have w2 : IntKind.u8.wrap (((ix a i : Nat) : Int) - d) = ((ix a i - d : Nat) : Int) := by rw [wrap8 (by omega) (by omega)]; omega
            simp [h, hSd, hSa]
            rw [w2, dl_set]
            refine ⟨i + 1, S.set i (ix a i - d), 0, ⟨by omega, by rw [List.length_set]; exact hS, by rw [drop_set, next], ?_, by omega⟩, by omega, Sim.of_le (Env.le_of (by simp [hwi])) (Mem.le_of rfl (by simp))⟩
            rw [take_set (by omega), ← ht, hb0 d hdk, if_neg hlx]; simp
      · have hi' : i = a.length := by have := ltI_f.1 h; omega
        have hSl : lessL a b 0 = S := by
          rw [← ht, hi', ← hS, List.take_length, hS, List.drop_length]
          simp [lessL]
        have hk := PCalls.keep (pos := 0) (g := 1) (e := 5) (n := a.length) (m := ⟨[(1, .row 5 1 (dl S))], 2⟩) (h := by rw [List.take_of_length_le (by simp [hS])]; exact call259 S (by omega)) (hp := rfl) (hn := by simp [hS]) (hr := by rw [List.take_of_length_le (by simp [hS])]; exact dl_noref S)
        simp
        refine xcall_r hk ?_ ?_
        · rintro v m' ⟨hv, rfl⟩
          cases hv
          simp [cr253, hSl]
        · rintro v m' ⟨hv, _⟩
          cases hv
  · rintro v m' (⟨rfl, hv, rfl⟩ | ⟨hv, rfl⟩) <;> cases hv
end Go.Pm

/- BkC2: contracts: products and powers of numbers by their digits. -/
namespace Go.Pm
open Go Go.Proofs
attribute [-simp] List.getElem?_map

theorem le_set {l : List Nat} {B B' k x : Nat} (h : ∀ s ∈ l, s ≤ B) (hk : k < l.length) (hx : B + x ≤ B') : ∀ s ∈ l.set k (ix l k + x), s ≤ B' := by
  intro s hs
  rcases List.mem_or_eq_of_mem_set hs with hs | rfl
  · have := h s hs; omega
  · have := h _ (ix_mem hk); omega

set_option maxHeartbeats 1000000 in
theorem call254 (a b : List Nat) (ha : a.length ≤ 1000) (hb : b.length ≤ 1000) (da : Dg a) (db : Dg b) : PCalls Bk.pg 254 [.list true 1 (dl a), .list true 1 (dl b)] fun out => out = .ret (.list true 1 (dl (digs (valD a * valD b)))) := by
  refine ok254.pcalls (by simp) ?_
  have w1 : IntKind.i64.wrap ((a.length : Int) + b.length) = (a.length : Int) + b.length := wrap64 (by omega) (by omega)
  have w2 : IntKind.i64.wrap ((a.length : Int) + b.length + 1) = ((a.length + b.length + 1 : Nat) : Int) := by rw [wrap64 (by omega) (by omega)]; omega
  obtain ⟨N, hN⟩ : ∃ N, N = a.length + b.length + 1 := ⟨_, rfl⟩
  have hN1 : N * 8 ≤ 140737488355328 := by omega
  have hN2 : (N : Int) ≤ 9223372036854775807 := by omega
  have hN3 : N ≤ 140737488355328 := by omega
  rw [← hN] at w2
  obtain ⟨M, hM⟩ : ∃ M, M = 81 * b.length := ⟨_, rfl⟩
  have hMb : M ≤ 81000 := by omega
  have z0 : List.replicate N [AV.int .i64 0] = iw (List.replicate N 0) := by simp [iw]
  have z1 : List.replicate N [AV.int .u8 0] = dl (List.replicate N 0) := by simp [dl]
  simp [c254, w1, w2, hN1, hN2]
  rw [z0]
  refine wpS_loopS (ι := Nat × List Nat) (fun s => [(0, .list true 1 (dl a)), (1, .list true 1 (dl b)), (5, .row 0 0 1 0 N), (21, .list true 1 (dl a)), (22, .int .i64 a.length), (23, .int .i64 (s.1 : Nat))]) (fun s => ⟨[(0, .row 3 1 (iw s.2))], 1⟩) (fun s => a.length - s.1)
    (fun s => s.1 ≤ a.length ∧ s.2.length = N ∧ valD s.2 = valD (a.take s.1) * valD b ∧ ∀ x ∈ s.2, x ≤ M * s.1) (0, List.replicate N 0) ⟨Nat.zero_le _, by simp, by rw [valD_zeros]; simp [valD], fun x hx => by rw [(List.mem_replicate.1 hx).2]; omega⟩ (Sim.of_le (Env.le_of (by simp)) (Mem.le_of rfl (by simp))) ?_
  rintro ⟨i, S⟩ ⟨hi, hS, hv, hm⟩
  simp only at hi hS hv hm
  simp
  refine br_cond rfl (fun h => ?_) (fun h => ?_)
  · have hlt : i < a.length := by have := ltI_t.1 h; omega
    have hai : ix a i < 10 := da _ (ix_mem hlt)
    have had := dl_ix (l := a) (ltN (i := i) hlt)
    have hwi : IntKind.i64.wrap ((i : Int) + 1) = (i : Int) + 1 := wrap64 (by omega) (by omega)
    have hMi : M * (i + 1) ≤ 81000 * 1000 := Nat.mul_le_mul hMb (by omega)
    have hMi' : M * (i + 1) = M * i + M := Nat.mul_succ M i
    simp [had]
    refine wpS_loopS (ι := Nat × List Nat) (fun s => [(0, .list true 1 (dl a)), (1, .list true 1 (dl b)), (5, .row 0 0 1 0 N), (6, .int .i64 (i : Nat)), (7, .int .u8 (ix a i : Nat)), (21, .list true 1 (dl a)), (22, .int .i64 a.length), (23, .int .i64 (i : Nat)), (28, .list true 1 (dl b)), (29, .int .i64 b.length), (30, .int .i64 (s.1 : Nat))]) (fun s => ⟨[(0, .row 3 1 (iw s.2))], 1⟩) (fun s => b.length - s.1)
      (fun s => s.1 ≤ b.length ∧ s.2.length = N ∧ valD s.2 = valD (a.take i) * valD b + ix a i * 10 ^ i * valD (b.take s.1) ∧ ∀ x ∈ s.2, x ≤ M * i + 81 * s.1) (0, S) ⟨Nat.zero_le _, hS, by rw [hv]; simp [valD], fun x hx => hm x hx⟩ (Sim.of_le (Env.le_of (by simp)) (Mem.le_of rfl (by simp))) ?_
    rintro ⟨k, T⟩ ⟨hk, hT, hvk, hmk⟩
    simp only at hk hT hvk hmk
    simp
    refine br_cond rfl (fun h2 => ?_) (fun h2 => ?_)
    · have hltk : k < b.length := by have := ltI_t.1 h2; omega
      have hbk : ix b k < 10 := db _ (ix_mem hltk)
      have hbd := dl_ix (l := b) (ltN (i := k) hltk)
      have hwik : IntKind.i64.wrap ((i : Int) + k) = ((i + k : Nat) : Int) := by rw [wrap64 (by omega) (by omega)]; omega
      have hwk : IntKind.i64.wrap ((k : Int) + 1) = (k : Int) + 1 := wrap64 (by omega) (by omega)
      have hikN : i + k < T.length := by omega
      have hT1 := iw_ix (l := T) (ltN (i := i + k) hikN)
      have hlN : ltI ((i + k : Nat) : Int) N = true := ltN (by omega)
      have wa : IntKind.i64.wrap ((ix a i : Nat) : Int) = (ix a i : Nat) := wrap64 (by omega) (by omega)
      have wb : IntKind.i64.wrap ((ix b k : Nat) : Int) = (ix b k : Nat) := wrap64 (by omega) (by omega)
      have hp81 : ix a i * ix b k ≤ 9 * 9 := Nat.mul_le_mul (by omega) (by omega)
      obtain ⟨p, hp⟩ : ∃ p, p = ix a i * ix b k := ⟨_, rfl⟩
      have wp : IntKind.i64.wrap (((ix a i : Nat) : Int) * (ix b k : Nat)) = (p : Int) := by
        rw [← Int.natCast_mul, ← hp]
        exact wrap64 (by omega) (by omega)
      have hTk := hmk _ (ix_mem hikN)
      have ws : IntKind.i64.wrap (((ix T (i + k) : Nat) : Int) + p) = ((ix T (i + k) + p : Nat) : Int) := by
        rw [wrap64 (by omega) (by omega)]; omega
      obtain ⟨q, hq⟩ : ∃ q, q = i + k := ⟨_, rfl⟩
      rw [← hq] at hwik hT1 hlN ws hTk
      simp [hbd, hwik, hlN, hT1, wa, wb, wp, hwk]
      rw [ws, iw_set]
      refine ⟨k + 1, T.set q (ix T q + p), ⟨by omega, by rw [List.length_set]; exact hT, ?_, le_set hmk (by omega) (by omega)⟩, by omega, Sim.of_le (Env.le_of (by simp)) (Mem.le_of rfl (by simp))⟩
      rw [valD_set p (by omega), hvk, valD_take hltk, hp, hq, Nat.mul_add, Nat.pow_add, Nat.add_assoc]
      congr 1
      rw [Nat.add_left_cancel_iff]
      simp only [Nat.mul_comm, Nat.mul_left_comm, Nat.mul_assoc]
    · have hk' : k = b.length := by have := ltI_f.1 h2; omega
      simp [hwi]
      refine ⟨i + 1, T, ⟨by omega, hT, ?_, fun x hx => ?_⟩, by omega, Sim.of_le (Env.le_of (by simp)) (Mem.le_of rfl (by simp))⟩
      · rw [hvk, hk', List.take_length, valD_take hlt, Nat.add_mul]
      · have := hmk x hx; omega
  · have hi' : i = a.length := by have := ltI_f.1 h; omega
    rw [hi', List.take_length] at hv
    have hMi : M * i ≤ 81000 * 1000 := Nat.mul_le_mul hMb (by omega)
    obtain ⟨B, hB⟩ : ∃ B, B = M * i := ⟨_, rfl⟩
    rw [← hB] at hm hMi
    simp [hN3, hN2]
    rw [z1]
    refine wpS_loopS (ι := Nat × List Nat × Nat) (fun s => [(5, .row 0 0 1 0 N), (10, .row 1 1 1 0 N), (11, .int .i64 (s.2.2 : Nat)), (53, .row 0 0 1 0 N), (54, .int .i64 N), (55, .int .i64 (s.1 : Nat))]) (fun s => ⟨[(0, .row 3 1 (iw S)), (1, .row 5 1 (dl s.2.1))], 2⟩) (fun s => N - s.1)
      (fun s => s.1 ≤ N ∧ s.2.1.length = N ∧ Dg s.2.1 ∧ s.2.1.drop s.1 = List.replicate (N - s.1) 0 ∧ valD s.2.1 + s.2.2 * 10 ^ s.1 = valD (S.take s.1) ∧ s.2.2 ≤ B) (0, List.replicate N 0, 0) ⟨Nat.zero_le _, by simp, zeros_dg N, rfl, by rw [valD_zeros]; simp [valD], Nat.zero_le _⟩ (Sim.of_le (Env.le_of (by simp)) (Mem.le_of rfl (by simp))) ?_
    rintro ⟨i, O, c⟩ ⟨hi, hO, hd, hz, hv2, hc⟩
    simp only at hi hO hd hz hv2 hc
    simp
    refine br_cond rfl (fun h2 => ?_) (fun h2 => ?_)
    · have hlt : i < N := by have := ltI_t.1 h2; omega
      have hS1 := iw_ix (l := S) (ltN (i := i) (by omega))
      have hSi := hm _ (ix_mem (l := S) (i := i) (by omega))
      obtain ⟨t, ht⟩ : ∃ t, t = c + ix S i := ⟨_, rfl⟩
      have wt : IntKind.i64.wrap ((c : Int) + (ix S i : Nat)) = (t : Int) := by rw [wrap64 (by omega) (by omega)]; omega
      have wr : IntKind.u8.wrap ((t : Int).tmod 10) = ((t % 10 : Nat) : Int) := by
        rw [Int.tmod_eq_emod_of_nonneg (by omega), wrap8 (by omega) (by omega)]; omega
      have wq : IntKind.i64.wrap ((t : Int) / 10) = (t : Int) / 10 := wrap64 (by omega) (by omega)
      have hwi : IntKind.i64.wrap ((i : Int) + 1) = (i : Int) + 1 := wrap64 (by omega) (by omega)
      have hlN : ltI (i : Int) N = true := ltN hlt
      have hOd := dl_ix (l := O) (ltN (i := i) (by omega))
      simp [hS1, wt, hlN, wq, hwi, hOd]
      rw [wr, dl_set]
      have hO0 : ix O i = 0 := by
        have := drop_ix (l := O) (i := i) (by omega)
        rw [hz, show N - i = (N - (i + 1)) + 1 by omega, List.replicate_succ] at this
        exact (List.cons.inj this).1.symm
      refine ⟨i + 1, O.set i (t % 10), t / 10, ⟨by omega, by rw [List.length_set]; exact hO, dg_set hd (by omega), ?_, ?_, by omega⟩, by omega, Sim.of_le (Env.le_of (by simp)) (Mem.le_of rfl (by simp))⟩
      · rw [drop_set]
        have := congrArg List.tail hz
        rw [List.tail_drop] at this
        rw [this, show N - i = (N - (i + 1)) + 1 by omega, List.replicate_succ]; rfl
      · have e := valD_set (l := O) (k := i) (t % 10) (by omega)
        rw [hO0, Nat.zero_add] at e
        have e2 : t * 10 ^ i = t % 10 * 10 ^ i + t / 10 * 10 ^ (i + 1) := by
          rw [Nat.pow_succ, Nat.mul_comm (10 ^ i) 10, ← Nat.mul_assoc, ← Nat.add_mul]
          congr 1
          omega
        rw [e, valD_take (by omega), ← hv2, Nat.add_assoc, ← e2, ht, Nat.add_mul, Nat.add_assoc]
    · have hi' : i = N := by have := ltI_f.1 h2; omega
      have hSt : S.take N = S := List.take_of_length_le (by omega)
      rw [hi', hSt, hv] at hv2
      have hlt : valD a * valD b < 10 ^ N := by
        have h1 := valD_lt da
        have h2 := valD_lt db
        have h3 : valD a * valD b ≤ 10 ^ a.length * 10 ^ b.length := Nat.mul_le_mul (by omega) (by omega)
        rw [← Nat.pow_add] at h3
        have h4 : 10 ^ (a.length + b.length) < 10 ^ N := Nat.pow_lt_pow_right (by decide) (by omega)
        omega
      have hc0 : c = 0 := by
        rcases Nat.eq_zero_or_pos c with h | h
        · exact h
        · have : 1 * 10 ^ N ≤ c * 10 ^ N := Nat.mul_le_mul_right _ h
          omega
      rw [hc0, Nat.zero_mul, Nat.add_zero] at hv2
      have hk := PCalls.keep (pos := 1) (g := 1) (e := 5) (n := N) (m := ⟨[(0, .row 3 1 (iw S)), (1, .row 5 1 (dl O))], 2⟩) (h := by rw [List.take_of_length_le (by simp [hO])]; exact call259 O (by omega)) (hp := rfl) (hn := by simp [hO]) (hr := by rw [List.take_of_length_le (by simp [hO])]; exact dl_noref O)
      simp
      refine xcall_r hk ?_ ?_
      · rintro v m' ⟨hv', rfl⟩
        cases hv'
        simp [cr254]
        rw [trim_digs hd, hv2]
      · rintro v m' ⟨hv', _⟩
        cases hv'

theorem digs_le {n k : Nat} (h : n ≤ 10 ^ k) : (digs n).length ≤ k + 1 := digs_len (k + 1) n (by
  have : 10 ^ k < 10 ^ (k + 1) := Nat.pow_lt_pow_right (by decide) (by omega)
  omega)

/-- A product of two numbers, by their digits. -/
theorem times {x y : Nat} (hx : (digs x).length ≤ 1000) (hy : (digs y).length ≤ 1000) : PCalls Bk.pg 254 [.list true 1 (dl (digs x)), .list true 1 (dl (digs y))] fun out => out = .ret (.list true 1 (dl (digs (x * y)))) := by
  have := call254 (digs x) (digs y) hx hy (digs_dg x) (digs_dg y)
  rwa [valD_digs, valD_digs] at this

theorem call255 (b n : Nat) (hb : b ≤ 10) (hn : n ≤ 900) : PCalls Bk.pg 255 [.int .i64 b, .int .i64 n] fun out => out = .ret (.list true 1 (dl (digs (b ^ n)))) := by
  refine ok255.pcalls (by simp) ?_
  simp [c255]
  refine xcall_p (call52 1 (by omega)) (by simp) ?_
  simp
  refine wpS_loopS (ι := Nat) (fun i => [(0, .int .i64 b), (5, .list true 1 (dl (digs (b ^ i)))), (7, .int .i64 n), (8, .int .i64 (i : Nat))]) (fun _ => ⟨[], 0⟩) (fun i => n - i)
    (fun i => i ≤ n) 0 (Nat.zero_le _) (Sim.of_le (Env.le_of (by simp)) (Mem.le_of rfl (by simp))) ?_
  rintro i hi
  simp
  refine br_cond rfl (fun h => ?_) (fun h => ?_)
  · have hlt : i < n := by have := ltI_t.1 h; omega
    have hwi : IntKind.i64.wrap ((i : Int) + 1) = (i : Int) + 1 := wrap64 (by omega) (by omega)
    simp
    refine xcall_p (call52 b (by omega)) (by simp) ?_
    simp
    have l1 : (digs (b ^ i)).length ≤ 1000 := Nat.le_trans (digs_le (Nat.pow_le_pow_left hb i)) (by omega)
    have l2 : (digs b).length ≤ 1000 := Nat.le_trans (digs_le (k := 1) (by omega)) (by omega)
    refine xcall_p (times l1 l2) (by simp) ?_
    simp [hwi]
    exact ⟨i + 1, by omega, by omega, Sim.of_le (Env.le_of (by simp [Nat.pow_succ])) (Mem.le_of rfl (by simp))⟩
  · have hi' : i = n := by have := ltI_f.1 h; omega
    simp [cr255, hi']
end Go.Pm

/- BkC3: contracts: digits from the highest one on; numbers out of digits; which number is greater. -/
namespace Go.Pm
open Go Go.Proofs
attribute [-simp] List.getElem?_map

theorem digs_lt {x k : Nat} (h : (digs x).length ≤ k) : x < 10 ^ k := by
  have := valD_lt (digs_dg x)
  rw [valD_digs] at this
  exact Nat.lt_of_lt_of_le this (Nat.pow_le_pow_right (by decide) h)

theorem cmpAux_sign {a b : List Nat} (da : Dg a) (db : Dg b) : ∀ k, k ≤ a.length → k ≤ b.length → (0 ≤ cmpAux a b k ↔ valD (b.take k) ≤ valD (a.take k)) ∧ (cmpAux a b k = 0 ↔ valD (b.take k) = valD (a.take k))
  | 0, _, _ => by simp [cmpAux, valD]
  | k + 1, ha, hb => by
    obtain ⟨h1, h2⟩ := cmpAux_sign da db k (by omega) (by omega)
    have la : valD (a.take k) < 10 ^ k := by
      have := valD_lt (l := a.take k) fun d hd => da d (List.mem_of_mem_take hd)
      rwa [List.length_take, Nat.min_eq_left (by omega)] at this
    have lb : valD (b.take k) < 10 ^ k := by
      have := valD_lt (l := b.take k) fun d hd => db d (List.mem_of_mem_take hd)
      rwa [List.length_take, Nat.min_eq_left (by omega)] at this
    rw [valD_take (by omega), valD_take (by omega), cmpAux]
    by_cases he : ix a k = ix b k
    · rw [if_pos he, he]
      exact ⟨h1.trans (by omega), h2.trans (by omega)⟩
    · rw [if_neg he]
      rcases Nat.lt_or_ge (ix a k) (ix b k) with hlt | hge
      · have : (ix a k + 1) * 10 ^ k ≤ ix b k * 10 ^ k := Nat.mul_le_mul_right _ hlt
        rw [Nat.add_mul, Nat.one_mul] at this
        constructor <;> constructor <;> intro h <;> omega
      · have : (ix b k + 1) * 10 ^ k ≤ ix a k * 10 ^ k := Nat.mul_le_mul_right _ (by omega)
        rw [Nat.add_mul, Nat.one_mul] at this
        constructor <;> constructor <;> intro h <;> omega

theorem cmp_sign (x y : Nat) : (0 ≤ cmpD (digs x) (digs y) ↔ y ≤ x) ∧ (cmpD (digs x) (digs y) = 0 ↔ x = y) := by
  unfold cmpD
  split
  · rename_i h
    have := cmpAux_sign (digs_dg x) (digs_dg y) (digs x).length (Nat.le_refl _) (by omega)
    rw [List.take_length, h, List.take_length, valD_digs, valD_digs] at this
    rw [h]
    exact ⟨this.1, this.2.trans ⟨Eq.symm, Eq.symm⟩⟩
  · rename_i h
    rcases Nat.lt_or_ge (digs x).length (digs y).length with hlt | hge
    · have h1 : x < y := by
        have h2 := digs_lt (Nat.le_refl (digs x).length)
        rcases Nat.lt_or_ge y (10 ^ (digs x).length) with h3 | h3
        · have := digs_len _ _ h3; omega
        · omega
      constructor <;> constructor <;> intro h <;> omega
    · have h1 : y < x := by
        have h2 := digs_lt (Nat.le_refl (digs y).length)
        rcases Nat.lt_or_ge x (10 ^ (digs y).length) with h3 | h3
        · have := digs_len _ _ h3; omega
        · omega
      constructor <;> constructor <;> intro h <;> omega

theorem call321 {l : List Nat} {m : Mem} : ACalls Bk.pg 321 [.list true 1 (dl l)] m fun out m' => out = .ret (.fn 356 [.ptr m.store.length m.next 0]) ∧ m' = m.new (.cells [.list true 1 (dl l)]) := by
  refine ok321.acalls (by simp) ?_
  simp [c321, cr321, postA_ret, Mem.new]

/-- (digit.limbs.down's iterator: whatever holds of the lower digits that are left.) -/
theorem call356 {pos gen p g : Nat} {Inv : Nat → Mem → Prop} {l : List Nat} {m0 : Mem} (hl : l.length ≤ 140737488355327)
    (hY : ∀ k m, k < l.length → Inv (k + 1) m → YCalls Bk.pg pos gen [.int .u8 (ix l k : Nat)] m fun out m' => out = .ret (.bool true) ∧ Inv k m')
    (hc : ∀ k m, Inv k m → m.obj p g = some (.cells [.list true 1 (dl l)]))
    (h0 : Inv l.length m0) : ACalls Bk.pg 356 [.yield pos gen, .ptr p g 0] m0 fun out m' => out = .ret (.tuple []) ∧ Inv 0 m' := by
  refine ok356.acalls (by simp) ?_
  have ho := hc _ _ h0
  have hw0 : IntKind.i64.wrap ((l.length : Int) - 1) = (l.length : Int) - 1 := wrap64 (by omega) (by omega)
  simp only [Mem.obj] at ho
  simp [c356, ho, hw0]
  refine wpS_loop (ι := Nat × Mem) (fun s => [(0, .yield pos gen), (1, .ptr p g 0), (3, .int .i64 ((s.1 : Int) - 1))]) (fun s => s.2) (fun s => s.1) (fun s => s.1 ≤ l.length ∧ Inv s.1 s.2) (l.length, m0) ⟨Nat.le_refl _, h0⟩ (Env.le_of (by simp)) rfl ?_
  rintro ⟨k, m⟩ ⟨hk, hI⟩
  simp only at hk hI
  have hobj := hc k m hI
  simp only [Mem.obj] at hobj
  simp
  refine br_cond rfl (fun h1 => ?_) (fun h1 => ?_)
  · obtain ⟨j, rfl⟩ : ∃ j, k = j + 1 := ⟨k - 1, by have := leI_t.1 h1; omega⟩
    have e1 : (((j + 1 : Nat) : Int) - 1) = j := by omega
    have e2 := dl_ix (l := l) (ltN (i := j) (by omega))
    have hwj : IntKind.i64.wrap ((j : Int) - 1) = (j : Int) - 1 := wrap64 (by omega) (by omega)
    simp only [e1] at h1 ⊢
    simp [hobj, e2]
    refine ⟨pos, gen, _, ⟨⟨rfl, rfl⟩, rfl⟩, ycall_r (hY j m (by omega) hI) ?_ ?_⟩
    · rintro v m' ⟨hv, hI'⟩
      cases hv
      simp [hwj]
      exact ⟨j, m', ⟨by omega, hI'⟩, by omega, Env.le_of (by simp), Mem.le_refl _⟩
    · rintro v m' ⟨hv, _⟩
      cases hv
  · have hk0 : k = 0 := by have := leI_f.1 h1; omega
    subst hk0
    simp [cr356, postA_norm]
    exact hI

theorem valD_drop {l : List Nat} {k : Nat} (h : k < l.length) : valD (l.drop k) = ix l k + 10 * valD (l.drop (k + 1)) := by
  rw [drop_ix h, valD]
theorem valD_drop_le : ∀ (l : List Nat) (k : Nat), valD (l.drop k) ≤ valD l
  | [], k => by simp [valD]
  | d :: l, 0 => Nat.le_refl _
  | d :: l, k + 1 => by
    have := valD_drop_le l k
    rw [List.drop_succ_cons, valD]; omega

def a245 : SC := (.ops [⟨(some 4), .plain .mv, [.tmp 7], none⟩] [])
def b245 : SC := (.block 1
     (.ops [⟨(some 8), .plain (.load false 1), [.tmp 3], none⟩,
       ⟨(some 9), .plain (.bin .mul), [.tmp 8, .lit (.int .i64 10)], none⟩,
       ⟨(some 10), .plain .mv, [.tmp 4], none⟩,
       ⟨(some 11), .plain (.convInt .i64), [.tmp 10], none⟩,
       ⟨(some 12), .plain (.bin .add), [.tmp 9, .tmp 11], none⟩,
       ⟨none, .plain (.store 1), [.tmp 3, .tmp 12], none⟩] [8, 9, 10, 11, 12]))
def e245 : Env := [(3, .ptr 0 0 0), (6, .fn 356 [.ptr 1 1 0])]
def ok245r : Loop → Prop := loopOk Bk.pg.toProgram Bk.imp [7] a245 b245
def m245 (l : List Nat) (n : Nat) (lo : AObj) : Mem := ⟨[(0, .cells [.int .i64 n]), (1, .cells [.list true 1 (dl l)]), (2, lo)], 3⟩

theorem round245 {l : List Nat} {k n : Nat} (hk : k < l.length) (hd : Dg l) (hv : valD l ≤ 9223372036854775807) (hn : n = valD (l.drop (k + 1))) :
    YCalls Bk.pg 2 2 [.int .u8 (ix l k : Nat)] (m245 l n (.loop .ready e245 ok245r)) fun out m' => out = .ret (.bool true) ∧ m' = m245 l (valD (l.drop k)) (.loop .ready e245 ok245r) := by
  refine ycalls_S (ps := [7]) (a := a245) (b := b245) (e := e245) rfl rfl ?_
  rw [show loopOk Bk.pg.toProgram Bk.imp [7] a245 b245 = ok245r from rfl]
  have hix := hd _ (ix_mem hk)
  have h1 := valD_drop hk
  have h2 := valD_drop_le l k
  have w1 : IntKind.i64.wrap ((ix l k : Nat) : Int) = (ix l k : Nat) := wrap64 (by omega) (by omega)
  have w2 : IntKind.i64.wrap ((n : Int) * 10) = (n : Int) * 10 := wrap64 (by omega) (by omega)
  have w3 : IntKind.i64.wrap ((n : Int) * 10 + (ix l k : Nat)) = (valD (l.drop k) : Nat) := by rw [wrap64 (by omega) (by omega)]; omega
  simp [a245, b245, Env.sets, e245, m245, w1, w2, w3]
  exact ⟨rfl, _, Mem.le_refl _, rfl, rfl⟩

theorem call245 (l : List Nat) (hd : Dg l) (hv : valD l ≤ 9223372036854775807) (hl : l.length ≤ 140737488355327) : PCalls Bk.pg 245 [.list true 1 (dl l)] fun out => out = .ret (.int .i64 (valD l : Nat)) := by
  refine ok245.pcalls (by simp) ?_
  simp [c245]
  refine xcall_a call321 ?_
  simp
  refine wpS_rangeS e245 ⟨[(0, .cells [.int .i64 0]), (1, .cells [.list true 1 (dl l)])], 2⟩ (Sim.of_le (Env.le_of (by simp [e245])) (Mem.le_refl _)) rfl
    (call356 (pos := 2) (gen := 2) (p := 1) (g := 1) (l := l) (Inv := fun k m => k ≤ l.length ∧ m = m245 l (valD (l.drop k)) (.loop .ready e245 ok245r)) hl ?hY ?hc ?h0) ?hr ?hp
  case hY =>
    rintro k m hk ⟨_, rfl⟩
    exact (round245 hk hd hv rfl).mono fun out m' h => ⟨h.1, by omega, h.2⟩
  case hc =>
    rintro k m ⟨_, rfl⟩
    rfl
  case h0 => exact ⟨Nat.le_refl _, by rw [List.drop_length]; rfl⟩
  case hr =>
    rintro v m' ⟨hv, _, rfl⟩
    refine ⟨.ready, e245, ok245r, rfl, ?_⟩
    simp [e245, m245, cr245]
  case hp =>
    rintro v m' ⟨hv, _⟩
    cases hv
end Go.Pm

/- BkC4: contracts: a difference's value; a row turned round; quotients of numbers by their digits. -/
namespace Go.Pm
open Go Go.Proofs
attribute [-simp] List.getElem?_map

theorem lessL_val : ∀ (a b : List Nat) (c : Nat), Dg a → Dg b → c ≤ 1 → valD b + c ≤ valD a → valD (lessL a b c) + valD b + c = valD a ∧ Dg (lessL a b c)
  | [], b, c, _, _, _, h => by
    simp only [valD] at h
    refine ⟨by simp only [lessL, valD]; omega, fun d hd => by simp [lessL] at hd⟩
  | x :: a, b, c, da, db, hc, h => by
    have hx : x < 10 := da x (by simp)
    have da' : Dg a := fun d hd => da d (by simp [hd])
    have hb : ∃ y, y < 10 ∧ y = b.headD 0 ∧ valD b = y + 10 * valD b.tail ∧ Dg b.tail := by
      cases b with
      | nil => exact ⟨0, by omega, rfl, by simp [valD], fun d hd => by simp at hd⟩
      | cons y b => exact ⟨y, db y (by simp), rfl, rfl, fun d hd => db d (List.mem_cons_of_mem _ hd)⟩
    obtain ⟨y, hy, hy', hv, db'⟩ := hb
    rw [valD, hv] at h
    unfold lessL
    rw [← hy']
    split
    · rename_i hlt
      obtain ⟨h1, h2⟩ := lessL_val a b.tail 1 da' db' (by omega) (by omega)
      refine ⟨by rw [valD, valD, hv]; omega, fun d hd => ?_⟩
      rcases List.mem_cons.1 hd with rfl | hd
      · omega
      · exact h2 d hd
    · rename_i hlt
      obtain ⟨h1, h2⟩ := lessL_val a b.tail 0 da' db' (by omega) (by omega)
      refine ⟨by rw [valD, valD, hv]; omega, fun d hd => ?_⟩
      rcases List.mem_cons.1 hd with rfl | hd
      · omega
      · exact h2 d hd

/-- A difference of two numbers, by their digits. -/
theorem lessC {x y : Nat} (hxy : y ≤ x) (hx : (digs x).length ≤ 140737488355327) (hy : (digs y).length ≤ 140737488355327) : PCalls Bk.pg 253 [.list true 1 (dl (digs x)), .list true 1 (dl (digs y))] fun out => out = .ret (.list true 1 (dl (digs (x - y)))) := by
  have h := call253 (digs x) (digs y) hx hy (digs_dg x) (digs_dg y)
  obtain ⟨h1, h2⟩ := lessL_val (digs x) (digs y) 0 (digs_dg x) (digs_dg y) (by omega) (by rw [valD_digs, valD_digs]; omega)
  rw [valD_digs, valD_digs] at h1
  rw [trim_digs h2, show valD (lessL (digs x) (digs y) 0) = x - y by omega] at h
  exact h

def revAt (Q : List Nat) (i t : Nat) : Nat := if t < i ∨ Q.length - i ≤ t then ix Q (Q.length - 1 - t) else ix Q t

theorem call324 (Q : List Nat) {o0 o1 o2 o3 o5 : Nat × AObj} {g nx : Nat} (hl : Q.length ≤ 140737488355327) : ACalls Bk.pg 324 [.row 4 g 1 0 Q.length] ⟨[o0, o1, o2, o3, (g, .row 5 1 (dl Q)), o5], nx⟩ fun out m' => out = .ret (.tuple []) ∧ m' = ⟨[o0, o1, o2, o3, (g, .row 5 1 (dl Q.reverse)), o5], nx⟩ := by
  refine ok324.acalls (by simp) ?_
  have hw0 : IntKind.i64.wrap ((Q.length : Int) - 1) = (Q.length : Int) - 1 := wrap64 (by omega) (by omega)
  simp [c324, hw0]
  refine wpS_loop (ι := Nat × List Nat) (fun s => [(0, .row 4 g 1 0 Q.length), (2, .int .i64 (s.1 : Nat)), (3, .int .i64 ((Q.length : Int) - 1 - s.1))]) (fun s => ⟨[o0, o1, o2, o3, (g, .row 5 1 (dl s.2)), o5], nx⟩) (fun s => Q.length - s.1)
    (fun s => s.1 ≤ Q.length ∧ s.2.length = Q.length ∧ 2 * s.1 ≤ Q.length + 1 ∧ ∀ t, t < Q.length → ix s.2 t = revAt Q s.1 t) (0, Q) ⟨Nat.zero_le _, rfl, by simp, fun t ht => by rw [revAt, if_neg]; omega⟩ (Env.le_of (by simp)) rfl ?_
  rintro ⟨i, S⟩ ⟨hi, hS, hi2, hx⟩
  simp only at hi hS hi2 hx
  simp
  refine br_cond rfl (fun h1 => ?_) (fun h1 => ?_)
  · obtain ⟨j, hj⟩ : ∃ j, j = Q.length - 1 - i := ⟨_, rfl⟩
    have hij : i < j := by have := ltI_t.1 h1; omega
    have ej : (Q.length : Int) - 1 - i = (j : Nat) := by omega
    have li : ltI (i : Int) Q.length = true := ltN (by omega)
    have lj : ltI (j : Int) Q.length = true := ltN (by omega)
    have di := dl_ix (l := S) (ltN (i := i) (by omega))
    have dj := dl_ix (l := S) (ltN (i := j) (by omega))
    have hwi : IntKind.i64.wrap ((i : Int) + 1) = (i : Int) + 1 := wrap64 (by omega) (by omega)
    have hwj : IntKind.i64.wrap ((j : Int) - 1) = (Q.length : Int) - 1 - (i + 1 : Nat) := by rw [wrap64 (by omega) (by omega)]; omega
    rw [ej]
    simp [li, lj, di, dj]
    rw [dl_set]
    have dj2 := dl_ix (l := S.set i (ix S j)) (i := j) (ltN (by rw [List.length_set]; omega))
    simp [dj2]
    rw [dl_set]
    simp [hwi, hwj]
    refine ⟨i + 1, (S.set i (ix S j)).set j (ix S i), ⟨by omega, by simp [hS], by omega, fun t ht => ?_⟩, by omega, Env.le_of (by simp [hwj]), Mem.le_of rfl (by simp)⟩
    rw [ix_set (by rw [List.length_set]; omega), ix_set (by omega), hx i (by omega), hx j (by omega), hx t ht]
    simp only [revAt]
    by_cases h1 : j = t
    · subst h1
      rw [if_pos rfl, if_neg (by omega), if_pos (by omega)]
      congr 1; omega
    · rw [if_neg h1]
      by_cases h2 : i = t
      · subst h2
        rw [if_pos rfl, if_neg (by omega), if_pos (by omega)]
        congr 1
      · rw [if_neg h2]
        by_cases h3 : t < i ∨ Q.length - i ≤ t
        · rw [if_pos h3, if_pos (by omega)]
        · rw [if_neg h3, if_neg (by omega)]
  · have : S = Q.reverse := by
      refine ext_ix (by rw [hS, List.length_reverse]) fun t ht => ?_
      have h2 := ltI_f.1 h1
      rw [hx t (by omega), revAt]
      have hr : ix Q.reverse t = ix Q (Q.length - 1 - t) := by
        simp only [ix, List.getD]
        rw [List.getElem?_reverse (by omega)]
      rw [hr]
      split
      · rfl
      · congr 1; omega
    subst this
    simp [cr324, postA_norm]
end Go.Pm

/- BkC5: contracts: quotients of numbers by their digits; products of long numbers. -/
namespace Go.Pm
open Go Go.Proofs
attribute [-simp] List.getElem?_map

def a252 : SC := (.ops [⟨(some 7), .plain .mv, [.tmp 11], none⟩] [])
def b252 : SC := (.block 1
     (.seq (.ops [⟨(some 12), .plain .mv, [.tmp 7], none⟩,
       ⟨(some 13), .plain (.buildRow 5 1 1 [(.int .u8 0)] [0]), [.tmp 12], none⟩,
       ⟨(some 14), .plain (.load false 1), [.tmp 6], none⟩,
       ⟨(some 15), .plain (.append 5 1 1), [.tmp 13, .tmp 14], none⟩,
       ⟨(some 16), .call 259, [.tmp 15], none⟩,
       ⟨none, .plain (.store 1), [.tmp 6, .tmp 16], none⟩] [12, 13, 14, 15, 16])
     (.seq (.ops [⟨(some 8), .plain .mv, [.lit (.int .u8 0)], none⟩] [])
     (.seq (.block 2
      (.loop
       (.seq (.seq (.ops [⟨(some 17), .plain (.load false 1), [.tmp 6], none⟩,
         ⟨(some 18), .plain (.load false 1), [.tmp 3], none⟩,
         ⟨(some 19), .call 257, [.tmp 17, .tmp 18], none⟩,
         ⟨(some 20), .plain (.bin .geq), [.tmp 19, .lit (.int .i64 0)], none⟩] [17, 18, 19])
       (.cond (.tmp 20)
        .skip
        (.exit 2)))
       (.block 3
        (.seq (.ops [⟨(some 21), .plain (.load false 1), [.tmp 6], none⟩,
          ⟨(some 22), .plain (.load false 1), [.tmp 3], none⟩,
          ⟨(some 23), .call 253, [.tmp 21, .tmp 22], none⟩,
          ⟨none, .plain (.store 1), [.tmp 6, .tmp 23], none⟩] [21, 22, 23])
        (.ops [⟨(some 24), .plain .mv, [.tmp 8], none⟩,
          ⟨(some 25), .plain (.bin .add), [.tmp 24, .lit (.int .u8 1)], none⟩,
          ⟨(some 8), .plain .mv, [.tmp 25], none⟩] [24, 25]))))))
     (.ops [⟨(some 26), .plain (.load false 1), [.tmp 5], none⟩,
       ⟨(some 27), .plain .mv, [.tmp 8], none⟩,
       ⟨(some 28), .plain (.buildRow 5 1 1 [(.int .u8 0)] [0]), [.tmp 27], none⟩,
       ⟨(some 29), .plain (.append 5 1 1), [.tmp 26, .tmp 28], none⟩,
       ⟨none, .plain (.store 1), [.tmp 5, .tmp 29], none⟩] [26, 27, 28, 29])))))
def e252 : Env := [(3, .ptr 0 0 0), (5, .ptr 1 1 0), (6, .ptr 2 2 0), (10, .fn 356 [.ptr 3 3 0])]
def ok252r : Loop → Prop := loopOk Bk.pg.toProgram Bk.imp [11] a252 b252
def m252 (l : List Nat) (B r : Nat) (Q : List Nat) (gq nx : Nat) (lo : AObj) : Mem :=
  ⟨[(0, .cells [.list true 1 (dl (digs B))]), (1, .cells [.row 4 gq 1 0 Q.length]), (2, .cells [.list true 1 (dl (digs r))]), (3, .cells [.list true 1 (dl l)]), (gq, .row 5 1 (dl Q)), (5, lo)], nx⟩

theorem len_lt {x k : Nat} (h : x < 10 ^ k) : (digs x).length ≤ k := digs_len k x h

set_option maxHeartbeats 1000000 in
theorem round252 {l : List Nat} {B r k gq nx : Nat} {Q : List Nat} (hk : k < l.length) (hd : Dg l) (hB : 0 < B) (hr : r < B) (hBl : (digs B).length ≤ 1000) (hQ : Q.length ≤ 1000) :
    YCalls Bk.pg 5 5 [.int .u8 (ix l k : Nat)] (m252 l B r Q gq nx (.loop .ready e252 ok252r)) fun out m' => out = .ret (.bool true) ∧ ∃ gq' nx', m' = m252 l B ((ix l k + 10 * r) % B) (Q ++ [(ix l k + 10 * r) / B]) gq' nx' (.loop .ready e252 ok252r) := by
  refine ycalls_S (ps := [11]) (a := a252) (b := b252) (e := e252) rfl rfl ?_
  rw [show loopOk Bk.pg.toProgram Bk.imp [11] a252 b252 = ok252r from rfl]
  have hix := hd _ (ix_mem hk)
  have hrl : (digs r).length ≤ 1000 := by
    have := digs_lt (Nat.le_refl (digs B).length)
    exact Nat.le_trans (digs_len _ _ (Nat.lt_trans hr this)) hBl
  have hap : ∀ (o0 o1 o2 o3 o4 o5 : Nat × AObj) (x : List AV), appendA 5 1 1 ⟨[o0, o1, o2, o3, o4, o5, (nx, .row 5 1 [x])], nx + 1⟩ (.row 6 nx 1 0 1) (.list true 1 (dl (digs r))) = some (.row 6 (nx + 1) 1 0 (1 + (digs r).length), ⟨[o0, o1, o2, o3, o4, o5, (nx + 1, .row 5 1 (x :: dl (digs r)))], nx + 2⟩) := by
    intros
    have h2 : 1 + (digs r).length ≤ 9223372036854775807 := by omega
    have h3 : 1 + (digs r).length ≤ 140737488355328 := by omega
    simp [appendA, appendN, elsOf, Mem.obj, Mem.turn, h3]
    omega
  simp [a252, b252, Env.sets, e252, m252]
  rw [hap]
  simp
  obtain ⟨d, hdd⟩ : ∃ d, d = ix l k := ⟨_, rfl⟩
  rw [← hdd] at hix ⊢
  obtain ⟨R, hR⟩ : ∃ R, R = d + 10 * r := ⟨_, rfl⟩
  have hdg : Dg (d :: digs r) := by
    intro x hx
    rcases List.mem_cons.1 hx with rfl | hx
    · exact hix
    · exact digs_dg r x hx
  have h259 := call259 (d :: digs r) (by simp; omega)
  rw [trim_digs hdg, valD, valD_digs, ← hR] at h259
  have htk : (dl (d :: digs r)).take (1 + (digs r).length) = dl (d :: digs r) := List.take_of_length_le (by simp; omega)
  rw [← htk] at h259
  refine xcall_r (PCalls.keep (pos := 6) (g := nx + 1) (e := 5) (els := dl (d :: digs r)) (h := h259) (hp := rfl) (hn := by simp; omega) (hr := by rw [htk]; exact dl_noref _)) ?_ ?_
  rotate_left
  · rintro v m' ⟨hv, _⟩
    cases hv
  rintro v m' ⟨hv, rfl⟩
  cases hv
  simp [Mem.turn]
  have hR10 : R < 10 * B := by omega
  refine wpS_loopS (ι := Nat × Nat × Nat) (fun s => [(3, .ptr 0 0 0), (5, .ptr 1 1 0), (6, .ptr 2 2 0), (8, .int .u8 (s.2.1 : Nat)), (10, .fn 356 [.ptr 3 3 0])]) (fun s => m252 l B s.1 Q gq s.2.2 (.loop .busy e252 ok252r)) (fun s => s.1)
    (fun s => s.1 + s.2.1 * B = R) (R, 0, nx + 3) (by simp) (Sim.of_le (Env.le_of (by simp)) (Mem.le_of rfl (by simp [m252, e252]))) ?_
  rintro ⟨r', n, nx'⟩ hs
  simp only at hs
  have hr'l : (digs r').length ≤ 1001 := by
    have h1 := digs_lt (Nat.le_refl (digs B).length)
    have h2 : 10 ^ ((digs B).length + 1) = 10 ^ (digs B).length * 10 := Nat.pow_succ _ _
    have := digs_len ((digs B).length + 1) r' (by omega)
    omega
  simp [m252]
  refine xcall_p (call257 (digs r') (digs B) (by omega) (by omega) (digs_dg _) (digs_dg _)) (by simp) ?_
  simp
  refine br_cond rfl (fun h1 => ?_) (fun h1 => ?_)
  · have hge : B ≤ r' := (cmp_sign r' B).1.1 (leI_t.1 h1)
    have hn9 : n + 1 < 11 := by
      rcases Nat.lt_or_ge n 10 with h | h
      · omega
      · have : 10 * B ≤ n * B := Nat.mul_le_mul_right _ h
        omega
    simp
    refine xcall_p (lessC hge (by omega) (by omega)) (by simp) ?_
    have hwn : IntKind.u8.wrap ((n : Int) + 1) = (n : Int) + 1 := wrap8 (by omega) (by omega)
    simp [hwn]
    refine ⟨r' - B, n + 1, by rw [Nat.add_mul]; omega, by omega, nx', Sim.of_le (Env.le_of (by simp)) (Mem.le_of rfl (by simp))⟩
  · have hlt : r' < B := by
      rcases Nat.lt_or_ge r' B with h | h
      · exact h
      · have := (cmp_sign r' B).1.2 h
        have := leI_f.1 h1
        omega
    have e1 : R / B = n := by
      rw [← hs, Nat.add_mul_div_right _ _ hB, Nat.div_eq_of_lt hlt, Nat.zero_add]
    have e2 : R % B = r' := by
      rw [← hs, Nat.add_mul_mod_self_right, Nat.mod_eq_of_lt hlt]
    have hap2 : appendA 5 1 1 ⟨[(0, .cells [.list true 1 (dl (digs B))]), (1, .cells [.row 4 gq 1 0 Q.length]), (2, .cells [.list true 1 (dl (digs r'))]), (3, .cells [.list true 1 (dl l)]), (gq, .row 5 1 (dl Q)), (5, .loop .busy e252 ok252r), (nx', .row 5 1 [[.int .u8 (n : Nat)]])], nx' + 1⟩ (.row 4 gq 1 0 Q.length) (.row 6 nx' 1 0 1) = some (.row 4 (nx' + 1) 1 0 (Q.length + 1), ⟨[(0, .cells [.list true 1 (dl (digs B))]), (1, .cells [.row 4 gq 1 0 Q.length]), (2, .cells [.list true 1 (dl (digs r'))]), (3, .cells [.list true 1 (dl l)]), (nx' + 1, .row 5 1 (dl (Q ++ [n]))), (5, .loop .busy e252 ok252r), (nx', .row 5 1 [[.int .u8 (n : Nat)]])], nx' + 2⟩) := by
      have h3 : Q.length + 1 ≤ 140737488355328 := by omega
      have h2 : Q.length + 1 ≤ 9223372036854775807 := by omega
      simp [appendA, appendN, elsOf, Mem.obj, Mem.turn, h3, dl]
      omega
    simp
    rw [hap2]
    simp
    rw [← hR, e1, e2]
    exact ⟨rfl, m252 l B r' (Q ++ [n]) (nx' + 1) (nx' + 2) (.loop .ready e252 ok252r), Mem.le_of rfl (by simp [m252, Mem.put, e252]), rfl, nx' + 1, nx' + 2, by simp [m252, e252]⟩

theorem revD (Q : List Nat) (q : Nat) : valD (Q ++ [q]).reverse = q + 10 * valD Q.reverse := by
  rw [List.reverse_append]; rfl

set_option maxHeartbeats 1000000 in
/-- A quotient of two numbers, by their digits. -/
theorem call252 {A B : Nat} (hB : 0 < B) (hAl : (digs A).length ≤ 1000) (hBl : (digs B).length ≤ 1000) : PCalls Bk.pg 252 [.list true 1 (dl (digs A)), .list true 1 (dl (digs B))] fun out => out = .ret (.list true 1 (dl (digs (A / B)))) := by
  refine ok252.pcalls (by simp) ?_
  obtain ⟨l, hl⟩ : ∃ l, l = digs A := ⟨_, rfl⟩
  have hd : Dg l := by rw [hl]; exact digs_dg A
  have hv : valD l = A := by rw [hl, valD_digs]
  rw [← hl] at hAl ⊢
  simp [c252]
  refine xcall_a call321 ?_
  simp
  have d0 : digs 0 = [] := digs_zero
  have sim1 : Sim e252 ⟨[(0, .cells [.list true 1 (dl (digs B))]), (1, .cells [.row 4 4 1 0 0]), (2, .cells [.list true 1 (dl (digs 0))]), (3, .cells [.list true 1 (dl l)]), (4, .row 5 1 [])], 5⟩ e252 ⟨[(0, .cells [.list true 1 (dl (digs B))]), (1, .cells [.nilS]), (2, .cells [.nilS]), (3, .cells [.list true 1 (dl l)])], 4⟩ := by
    refine Sim.trans ?_ (Sim.weak_cell (pos := 2) (g := 2) (vs := [.nilS]) 0 (y := .list true 1 []) rfl rfl Wk.nil)
    refine Sim.trans ?_ (Sim.nil_cell (pos := 1) (g := 1) (vs := [.nilS]) 0 5 (sz := 1) (by decide) rfl rfl)
    refine Sim.of_le (Env.le_refl _) (Mem.le_of rfl ?_)
    rw [d0]; rfl
  refine wpS_rangeS e252 ⟨[(0, .cells [.list true 1 (dl (digs B))]), (1, .cells [.row 4 4 1 0 0]), (2, .cells [.list true 1 (dl (digs 0))]), (3, .cells [.list true 1 (dl l)]), (4, .row 5 1 [])], 5⟩ (Sim.trans sim1 (Sim.of_le (Env.le_of (by simp [e252])) (Mem.le_refl _))) rfl
    (call356 (pos := 5) (gen := 5) (p := 3) (g := 3) (l := l) (Inv := fun k m => k ≤ l.length ∧ ∃ Q gq nx, m = m252 l B (valD (l.drop k) % B) Q gq nx (.loop .ready e252 ok252r) ∧ Dg Q ∧ valD Q.reverse = valD (l.drop k) / B ∧ Q.length = l.length - k) (by omega) ?hY ?hc ?h0) ?hr ?hp
  case hY =>
    rintro k m hk ⟨_, Q, gq, nx, rfl, hQd, hQv, hQl⟩
    have hr := Nat.mod_lt (valD (l.drop (k + 1))) hB
    refine (round252 hk hd hB hr hBl (by omega)).mono ?_
    rintro out m' ⟨ho, gq', nx', hm⟩
    have h1 := valD_drop hk
    obtain ⟨H, hH⟩ : ∃ H, H = valD (l.drop (k + 1)) := ⟨_, rfl⟩
    rw [← hH] at h1 hQv hr hm
    have hix := hd _ (ix_mem hk)
    have e0 : H = B * (H / B) + H % B := (Nat.div_add_mod H B).symm
    have e1 : valD (l.drop k) = (ix l k + 10 * (H % B)) + 10 * (H / B) * B := by
      rw [h1, Nat.mul_assoc, Nat.mul_comm (H / B) B]
      omega
    have e2 : valD (l.drop k) % B = (ix l k + 10 * (H % B)) % B := by rw [e1, Nat.add_mul_mod_self_right]
    have e3 : valD (l.drop k) / B = (ix l k + 10 * (H % B)) / B + 10 * (H / B) := by rw [e1, Nat.add_mul_div_right _ _ hB]
    refine ⟨ho, by omega, Q ++ [(ix l k + 10 * (H % B)) / B], gq', nx', by rw [hm, e2], ?_, by rw [revD, hQv, e3], by simp; omega⟩
    intro x hx
    rcases List.mem_append.1 hx with hx | hx
    · exact hQd x hx
    · rw [List.mem_singleton.1 hx]
      exact Nat.div_lt_of_lt_mul (by omega)
  case hc =>
    rintro k m ⟨_, Q, gq, nx, rfl, _⟩
    rfl
  case h0 => exact ⟨Nat.le_refl _, [], 4, 6, by rw [List.drop_length]; simp [valD, m252, Mem.new, dl, ok252r, a252, b252], fun x hx => by simp at hx, by rw [List.drop_length]; simp [valD], by simp⟩
  case hr =>
    rintro v m' ⟨hv', _, Q, gq, nx, rfl, hQd, hQv, hQl⟩
    refine ⟨.ready, e252, ok252r, rfl, ?_⟩
    rw [List.drop_zero, hv] at hQv
    simp [e252, m252]
    refine xcall_a (call324 Q (by omega)) ?_
    simp
    have hdr : Dg Q.reverse := fun x hx => hQd x (by simpa using hx)
    have h259 := call259 Q.reverse (by simp; omega)
    rw [trim_digs hdr, hQv] at h259
    have htk : (dl Q.reverse).take Q.length = dl Q.reverse := List.take_of_length_le (by simp)
    rw [← htk] at h259
    refine xcall_r (PCalls.keep (pos := 4) (g := gq) (e := 5) (els := dl Q.reverse) (h := h259) (hp := rfl) (hn := by simp) (hr := by rw [htk]; exact dl_noref _)) ?_ ?_
    · rintro v m' ⟨hv', rfl⟩
      cases hv'
      simp [cr252]
    · rintro v m' ⟨hv', _⟩
      cases hv'
  case hp =>
    rintro v m' ⟨hv', _⟩
    cases hv'
end Go.Pm
