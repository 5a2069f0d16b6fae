/- BkT2: contracts: the table of built-in functions, all its rows. Printed by gentab2.py. -/
import Derived.Test.YtmcogjekcefjoaaGreatDoorGk
import Derived.Test.YtmcogjekcefjoaaGreatDoorPmU
import Derived.Test.YtmcogjekcefjoaaGreatDoorGa
import Derived.Test.YtmcogjekcefjoaaGreatDoorPmT
namespace Go.Pm
open Go Go.Proofs
attribute [-simp] List.getElem?_map
attribute [simp] nilCheckA postA_norm

def l44 (l : List (ByteArray × RKey)) : List (ByteArray × RKey) := [(⟨#[70, 73, 88, 69, 68]⟩, 1, 3, none), (⟨#[66, 73, 78, 65, 82, 89]⟩, 1, 3, none), (⟨#[68, 69, 67, 73, 77, 65, 76]⟩, 1, 3, none), (⟨#[70, 76, 79, 65, 84]⟩, 1, 2, none)] ++ ([(⟨#[65, 68, 68]⟩, 3, 4, none), (⟨#[83, 85, 66, 84, 82, 65, 67, 84]⟩, 3, 4, none), (⟨#[77, 85, 76, 84, 73, 80, 76, 89]⟩, 3, 4, none), (⟨#[68, 73, 86, 73, 68, 69]⟩, 3, 4, none)] ++ ([(⟨#[77, 65, 88]⟩, 1, 20, none), (⟨#[77, 73, 78]⟩, 1, 20, none)] ++ ((⟨#[77, 79, 68]⟩, 2, 2, some (75, 76)) :: ((⟨#[82, 79, 85, 78, 68]⟩, 2, 2, some (73, 74)) :: ([(⟨#[70, 76, 79, 79, 82]⟩, 1, 1, none), (⟨#[67, 69, 73, 76]⟩, 1, 1, none), (⟨#[84, 82, 85, 78, 67]⟩, 1, 1, none)] ++ ((⟨#[83, 73, 71, 78]⟩, 1, 1, some (65, 68)) :: ((⟨#[65, 66, 83]⟩, 1, 1, some (61, 62)) :: (l))))))))
set_option maxHeartbeats 16000000 in
theorem call44N {S : List (Nat × AObj)} {g nx : Nat} {l : List (ByteArray × RKey)} {L : List (AV × AV)} (hL : TabN l L) :
    ACalls Bk.pg 44 [.map S.length g] ⟨S ++ [(g, .map L)], nx⟩ fun out m' => out = .ret (.tuple []) ∧ ∃ L' nx', m' = ⟨S ++ [(g, .map L')], nx'⟩ ∧ TabN (l44 l) L' := by
  refine ACalls.forget (ok44.acalls (by simp) ?_)
  obtain ⟨L1, u2, t3⟩ := upd_tabN ⟨#[65, 66, 83]⟩ 1 1 61 62 hL
  simp only [rowA] at u2
  obtain ⟨L4, u5, t6⟩ := upd_tabN ⟨#[83, 73, 71, 78]⟩ 1 1 65 68 t3
  simp only [rowA] at u5
  have m7 : updA (.str ⟨#[70, 76, 79, 79, 82]⟩) (.int .i64 (-1)) [] = some [(.str ⟨#[70, 76, 79, 79, 82]⟩, .int .i64 (-1))] := upd_lit (ss := []) (by decide)
  have m8 : updA (.str ⟨#[67, 69, 73, 76]⟩) (.int .i64 1) [(.str ⟨#[70, 76, 79, 79, 82]⟩, .int .i64 (-1))] = some [(.str ⟨#[70, 76, 79, 79, 82]⟩, .int .i64 (-1)), (.str ⟨#[67, 69, 73, 76]⟩, .int .i64 1)] := upd_lit (ss := [(⟨#[70, 76, 79, 79, 82]⟩, .int .i64 (-1))]) (by decide)
  have m9 : updA (.str ⟨#[84, 82, 85, 78, 67]⟩) (.int .i64 0) [(.str ⟨#[70, 76, 79, 79, 82]⟩, .int .i64 (-1)), (.str ⟨#[67, 69, 73, 76]⟩, .int .i64 1)] = some [(.str ⟨#[70, 76, 79, 79, 82]⟩, .int .i64 (-1)), (.str ⟨#[67, 69, 73, 76]⟩, .int .i64 1), (.str ⟨#[84, 82, 85, 78, 67]⟩, .int .i64 0)] := upd_lit (ss := [(⟨#[70, 76, 79, 79, 82]⟩, .int .i64 (-1)), (⟨#[67, 69, 73, 76]⟩, .int .i64 1)]) (by decide)
  simp [c44, isKey, u2, u5, m7, m8, m9]
  intro bs10 cl11 hb12 hl13
  obtain ⟨es14, he15⟩ : ∃ es, es = zipB [(AV.str ⟨#[70, 76, 79, 79, 82]⟩, AV.int .i64 (-1)), (AV.str ⟨#[67, 69, 73, 76]⟩, AV.int .i64 1), (AV.str ⟨#[84, 82, 85, 78, 67]⟩, AV.int .i64 0)] bs10 := ⟨_, rfl⟩
  have ha16 : es14.all (fun e => e.2.2 < cl11) = true := by rw [he15]; exact born_all hb12
  have hu22 : ∀ e1 ∈ es14, ∀ e2 ∈ es14, e1.2.2 = e2.2.2 → e1 = e2 := by rw [he15]; exact zipB_uniq hb12.1
  have hx23 : ∀ k r, lkF [(⟨#[70, 76, 79, 79, 82]⟩, 1, 1, none), (⟨#[67, 69, 73, 76]⟩, 1, 1, none), (⟨#[84, 82, 85, 78, 67]⟩, 1, 1, none)] k = some r → ∃ e ∈ es14, e.1 = .str k := by
    intro k r hr
    have hk : (AV.str k) ∈ ([(AV.str ⟨#[70, 76, 79, 79, 82]⟩, AV.int .i64 (-1)), (AV.str ⟨#[67, 69, 73, 76]⟩, AV.int .i64 1), (AV.str ⟨#[84, 82, 85, 78, 67]⟩, AV.int .i64 0)]).map Prod.fst := List.mem_map_of_mem (f := AV.str) (lkF_mem hr)
    obtain ⟨e, he, hek⟩ := List.mem_map.1 hk
    rw [he15, ← hek]
    exact zipB_all (by simpa using hl13) _ _ he
  have hk17 : ∀ e ∈ es14, ∃ s x, e.1 = .str s ∧ e.2.1 = .int .i64 x ∧ lkF [(⟨#[70, 76, 79, 79, 82]⟩, 1, 1, none), (⟨#[67, 69, 73, 76]⟩, 1, 1, none), (⟨#[84, 82, 85, 78, 67]⟩, 1, 1, none)] s = some (1, 1, none) := by
    intro e he
    rw [he15] at he
    have h1 := (zipB_mem he).1
    simp only [List.mem_cons, List.not_mem_nil, or_false, Prod.mk.injEq] at h1
    rcases h1 with ⟨h1, h2⟩ | ⟨h1, h2⟩ | ⟨h1, h2⟩ <;> exact ⟨_, _, h1, h2, by first | rfl | simp [lkF]⟩
  rw [← he15]
  refine wpS_loopS (ι := List Nat × List (AV × AV) × Nat) (fun _ => [(0, .map S.length g), (17, .ptr (S.length + 2) (nx + 1) 0)]) (fun s => ⟨S ++ [(g, .map s.2.1), (nx, .emap es14 cl11), (nx + 1, .iter (S.length + 1) (nx) cl11 s.1 cl11)], s.2.2⟩)
    (fun s => (es14.filter fun x => !s.1.contains x.2.2).length) (fun s => TabI [(⟨#[70, 76, 79, 79, 82]⟩, 1, 1, none), (⟨#[67, 69, 73, 76]⟩, 1, 1, none), (⟨#[84, 82, 85, 78, 67]⟩, 1, 1, none)] ((⟨#[83, 73, 71, 78]⟩, 1, 1, some (65, 68)) :: ((⟨#[65, 66, 83]⟩, 1, 1, some (61, 62)) :: (l))) es14 s.1 s.2.1) ([], L4, nx + 2) (tabI_start _ _ t6) (Sim.of_le (Env.le_of (by simp)) (Mem.le_of rfl (by simp [take_part]))) ?_
  rintro ⟨seen18, L19, n20⟩ t21
  simp only at t21
  simp [ha16]
  refine next_split2 (fun hd => ?_) (fun e he hp => ?_)
  rotate_left
  · obtain ⟨s, x, hs, hx, hr⟩ := hk17 e he
    have hf := find_born2 he hu22
    obtain ⟨L', u', t'⟩ := tabI_step (e := e) 70 [] 71 [.ptr (S.length + 3) (n20) 0] t21 (fun e1 h1 h2 => hu22 e1 h1 e he h2) hs hr
    simp only [rowA] at u'
    
    have one : Value.nilFunc.oneCell' = true := rfl
    simp [hf, hs, hx, isKey, u', one]
    exact ⟨seen18 ++ [e.2.2], L', t', n20 + 1, by simpa using unseen_less he (by simpa using hp), Sim.of_le (Env.le_of (by simp)) (Mem.le_of rfl (by simp [take_part]))⟩
  have t24 := tabI_done t21 (fun e he => by simpa using hd e he) hx23
  clear t21
  obtain ⟨L25, u26, t27⟩ := upd_tabN ⟨#[82, 79, 85, 78, 68]⟩ 2 2 73 74 t24
  simp only [rowA] at u26
  obtain ⟨L28, u29, t30⟩ := upd_tabN ⟨#[77, 79, 68]⟩ 2 2 75 76 t27
  simp only [rowA] at u29
  have m31 : updA (.str ⟨#[77, 65, 88]⟩) (.int .i64 1) [] = some [(.str ⟨#[77, 65, 88]⟩, .int .i64 1)] := upd_lit (ss := []) (by decide)
  have m32 : updA (.str ⟨#[77, 73, 78]⟩) (.int .i64 (-1)) [(.str ⟨#[77, 65, 88]⟩, .int .i64 1)] = some [(.str ⟨#[77, 65, 88]⟩, .int .i64 1), (.str ⟨#[77, 73, 78]⟩, .int .i64 (-1))] := upd_lit (ss := [(⟨#[77, 65, 88]⟩, .int .i64 1)]) (by decide)
  simp [isKey, u26, u29, m31, m32]
  intro bs33 cl34 hb35 hl36
  obtain ⟨es37, he38⟩ : ∃ es, es = zipB [(AV.str ⟨#[77, 65, 88]⟩, AV.int .i64 1), (AV.str ⟨#[77, 73, 78]⟩, AV.int .i64 (-1))] bs33 := ⟨_, rfl⟩
  have ha39 : es37.all (fun e => e.2.2 < cl34) = true := by rw [he38]; exact born_all hb35
  have hu45 : ∀ e1 ∈ es37, ∀ e2 ∈ es37, e1.2.2 = e2.2.2 → e1 = e2 := by rw [he38]; exact zipB_uniq hb35.1
  have hx46 : ∀ k r, lkF [(⟨#[77, 65, 88]⟩, 1, 20, none), (⟨#[77, 73, 78]⟩, 1, 20, none)] k = some r → ∃ e ∈ es37, e.1 = .str k := by
    intro k r hr
    have hk : (AV.str k) ∈ ([(AV.str ⟨#[77, 65, 88]⟩, AV.int .i64 1), (AV.str ⟨#[77, 73, 78]⟩, AV.int .i64 (-1))]).map Prod.fst := List.mem_map_of_mem (f := AV.str) (lkF_mem hr)
    obtain ⟨e, he, hek⟩ := List.mem_map.1 hk
    rw [he38, ← hek]
    exact zipB_all (by simpa using hl36) _ _ he
  have hk40 : ∀ e ∈ es37, ∃ s x, e.1 = .str s ∧ e.2.1 = .int .i64 x ∧ lkF [(⟨#[77, 65, 88]⟩, 1, 20, none), (⟨#[77, 73, 78]⟩, 1, 20, none)] s = some (1, 20, none) := by
    intro e he
    rw [he38] at he
    have h1 := (zipB_mem he).1
    simp only [List.mem_cons, List.not_mem_nil, or_false, Prod.mk.injEq] at h1
    rcases h1 with ⟨h1, h2⟩ | ⟨h1, h2⟩ <;> exact ⟨_, _, h1, h2, by first | rfl | simp [lkF]⟩
  rw [← he38]
  refine wpS_loopS (ι := List Nat × List (AV × AV) × Nat) (fun _ => [(0, .map S.length g), (33, .ptr (S.length + 4) (n20 + 1) 0)]) (fun s => ⟨S ++ [(g, .map s.2.1), (nx, .emap es14 cl11), (nx + 1, .iter (S.length + 1) (nx) cl11 seen18 cl11), (n20, .emap es37 cl34), (n20 + 1, .iter (S.length + 3) (n20) cl34 s.1 cl34)], s.2.2⟩)
    (fun s => (es37.filter fun x => !s.1.contains x.2.2).length) (fun s => TabI [(⟨#[77, 65, 88]⟩, 1, 20, none), (⟨#[77, 73, 78]⟩, 1, 20, none)] ((⟨#[77, 79, 68]⟩, 2, 2, some (75, 76)) :: ((⟨#[82, 79, 85, 78, 68]⟩, 2, 2, some (73, 74)) :: ([(⟨#[70, 76, 79, 79, 82]⟩, 1, 1, none), (⟨#[67, 69, 73, 76]⟩, 1, 1, none), (⟨#[84, 82, 85, 78, 67]⟩, 1, 1, none)] ++ ((⟨#[83, 73, 71, 78]⟩, 1, 1, some (65, 68)) :: ((⟨#[65, 66, 83]⟩, 1, 1, some (61, 62)) :: (l)))))) es37 s.1 s.2.1) ([], L28, n20 + 2) (tabI_start _ _ t30) (Sim.of_le (Env.le_of (by simp)) (Mem.le_of rfl (by simp [take_part]))) ?_
  rintro ⟨seen41, L42, n43⟩ t44
  simp only at t44
  simp [ha39]
  refine next_split2 (fun hd => ?_) (fun e he hp => ?_)
  rotate_left
  · obtain ⟨s, x, hs, hx, hr⟩ := hk40 e he
    have hf := find_born2 he hu45
    obtain ⟨L', u', t'⟩ := tabI_step (e := e) 75 [] 77 [.ptr (S.length + 5) (n43) 0] t44 (fun e1 h1 h2 => hu45 e1 h1 e he h2) hs hr
    simp only [rowA] at u'
    
    have one : Value.nilFunc.oneCell' = true := rfl
    simp [hf, hs, hx, isKey, u', one]
    exact ⟨seen41 ++ [e.2.2], L', t', n43 + 1, by simpa using unseen_less he (by simpa using hp), Sim.of_le (Env.le_of (by simp)) (Mem.le_of rfl (by simp [take_part]))⟩
  have t47 := tabI_done t44 (fun e he => by simpa using hd e he) hx46
  clear t44
  have m48 : updA (.str ⟨#[65, 68, 68]⟩) (.fn 79 []) [] = some [(.str ⟨#[65, 68, 68]⟩, .fn 79 [])] := upd_lit (ss := []) (by decide)
  have m49 : updA (.str ⟨#[83, 85, 66, 84, 82, 65, 67, 84]⟩) (.fn 80 []) [(.str ⟨#[65, 68, 68]⟩, .fn 79 [])] = some [(.str ⟨#[65, 68, 68]⟩, .fn 79 []), (.str ⟨#[83, 85, 66, 84, 82, 65, 67, 84]⟩, .fn 80 [])] := upd_lit (ss := [(⟨#[65, 68, 68]⟩, .fn 79 [])]) (by decide)
  have m50 : updA (.str ⟨#[77, 85, 76, 84, 73, 80, 76, 89]⟩) (.fn 81 []) [(.str ⟨#[65, 68, 68]⟩, .fn 79 []), (.str ⟨#[83, 85, 66, 84, 82, 65, 67, 84]⟩, .fn 80 [])] = some [(.str ⟨#[65, 68, 68]⟩, .fn 79 []), (.str ⟨#[83, 85, 66, 84, 82, 65, 67, 84]⟩, .fn 80 []), (.str ⟨#[77, 85, 76, 84, 73, 80, 76, 89]⟩, .fn 81 [])] := upd_lit (ss := [(⟨#[65, 68, 68]⟩, .fn 79 []), (⟨#[83, 85, 66, 84, 82, 65, 67, 84]⟩, .fn 80 [])]) (by decide)
  have m51 : updA (.str ⟨#[68, 73, 86, 73, 68, 69]⟩) (.fn 82 []) [(.str ⟨#[65, 68, 68]⟩, .fn 79 []), (.str ⟨#[83, 85, 66, 84, 82, 65, 67, 84]⟩, .fn 80 []), (.str ⟨#[77, 85, 76, 84, 73, 80, 76, 89]⟩, .fn 81 [])] = some [(.str ⟨#[65, 68, 68]⟩, .fn 79 []), (.str ⟨#[83, 85, 66, 84, 82, 65, 67, 84]⟩, .fn 80 []), (.str ⟨#[77, 85, 76, 84, 73, 80, 76, 89]⟩, .fn 81 []), (.str ⟨#[68, 73, 86, 73, 68, 69]⟩, .fn 82 [])] := upd_lit (ss := [(⟨#[65, 68, 68]⟩, .fn 79 []), (⟨#[83, 85, 66, 84, 82, 65, 67, 84]⟩, .fn 80 []), (⟨#[77, 85, 76, 84, 73, 80, 76, 89]⟩, .fn 81 [])]) (by decide)
  have one : Value.nilFunc.oneCell' = true := rfl
  simp [isKey, m48, m49, m50, m51]
  intro bs52 cl53 hb54 hl55
  obtain ⟨es56, he57⟩ : ∃ es, es = zipB [(AV.str ⟨#[65, 68, 68]⟩, AV.fn 79 []), (AV.str ⟨#[83, 85, 66, 84, 82, 65, 67, 84]⟩, AV.fn 80 []), (AV.str ⟨#[77, 85, 76, 84, 73, 80, 76, 89]⟩, AV.fn 81 []), (AV.str ⟨#[68, 73, 86, 73, 68, 69]⟩, AV.fn 82 [])] bs52 := ⟨_, rfl⟩
  have ha58 : es56.all (fun e => e.2.2 < cl53) = true := by rw [he57]; exact born_all hb54
  have hu64 : ∀ e1 ∈ es56, ∀ e2 ∈ es56, e1.2.2 = e2.2.2 → e1 = e2 := by rw [he57]; exact zipB_uniq hb54.1
  have hx65 : ∀ k r, lkF [(⟨#[65, 68, 68]⟩, 3, 4, none), (⟨#[83, 85, 66, 84, 82, 65, 67, 84]⟩, 3, 4, none), (⟨#[77, 85, 76, 84, 73, 80, 76, 89]⟩, 3, 4, none), (⟨#[68, 73, 86, 73, 68, 69]⟩, 3, 4, none)] k = some r → ∃ e ∈ es56, e.1 = .str k := by
    intro k r hr
    have hk : (AV.str k) ∈ ([(AV.str ⟨#[65, 68, 68]⟩, AV.fn 79 []), (AV.str ⟨#[83, 85, 66, 84, 82, 65, 67, 84]⟩, AV.fn 80 []), (AV.str ⟨#[77, 85, 76, 84, 73, 80, 76, 89]⟩, AV.fn 81 []), (AV.str ⟨#[68, 73, 86, 73, 68, 69]⟩, AV.fn 82 [])]).map Prod.fst := List.mem_map_of_mem (f := AV.str) (lkF_mem hr)
    obtain ⟨e, he, hek⟩ := List.mem_map.1 hk
    rw [he57, ← hek]
    exact zipB_all (by simpa using hl55) _ _ he
  have hk59 : ∀ e ∈ es56, ∃ s x, e.1 = .str s ∧ e.2.1 = .fn x [] ∧ lkF [(⟨#[65, 68, 68]⟩, 3, 4, none), (⟨#[83, 85, 66, 84, 82, 65, 67, 84]⟩, 3, 4, none), (⟨#[77, 85, 76, 84, 73, 80, 76, 89]⟩, 3, 4, none), (⟨#[68, 73, 86, 73, 68, 69]⟩, 3, 4, none)] s = some (3, 4, none) := by
    intro e he
    rw [he57] at he
    have h1 := (zipB_mem he).1
    simp only [List.mem_cons, List.not_mem_nil, or_false, Prod.mk.injEq] at h1
    rcases h1 with ⟨h1, h2⟩ | ⟨h1, h2⟩ | ⟨h1, h2⟩ | ⟨h1, h2⟩ <;> exact ⟨_, _, h1, h2, by first | rfl | simp [lkF]⟩
  rw [← he57]
  refine wpS_loopS (ι := List Nat × List (AV × AV) × Nat) (fun _ => [(0, .map S.length g), (45, .ptr (S.length + 6) (n43 + 1) 0)]) (fun s => ⟨S ++ [(g, .map s.2.1), (nx, .emap es14 cl11), (nx + 1, .iter (S.length + 1) (nx) cl11 seen18 cl11), (n20, .emap es37 cl34), (n20 + 1, .iter (S.length + 3) (n20) cl34 seen41 cl34), (n43, .emap es56 cl53), (n43 + 1, .iter (S.length + 5) (n43) cl53 s.1 cl53)], s.2.2⟩)
    (fun s => (es56.filter fun x => !s.1.contains x.2.2).length) (fun s => TabI [(⟨#[65, 68, 68]⟩, 3, 4, none), (⟨#[83, 85, 66, 84, 82, 65, 67, 84]⟩, 3, 4, none), (⟨#[77, 85, 76, 84, 73, 80, 76, 89]⟩, 3, 4, none), (⟨#[68, 73, 86, 73, 68, 69]⟩, 3, 4, none)] ([(⟨#[77, 65, 88]⟩, 1, 20, none), (⟨#[77, 73, 78]⟩, 1, 20, none)] ++ ((⟨#[77, 79, 68]⟩, 2, 2, some (75, 76)) :: ((⟨#[82, 79, 85, 78, 68]⟩, 2, 2, some (73, 74)) :: ([(⟨#[70, 76, 79, 79, 82]⟩, 1, 1, none), (⟨#[67, 69, 73, 76]⟩, 1, 1, none), (⟨#[84, 82, 85, 78, 67]⟩, 1, 1, none)] ++ ((⟨#[83, 73, 71, 78]⟩, 1, 1, some (65, 68)) :: ((⟨#[65, 66, 83]⟩, 1, 1, some (61, 62)) :: (l))))))) es56 s.1 s.2.1) ([], L42, n43 + 2) (tabI_start _ _ t47) (Sim.of_le (Env.le_of (by simp)) (Mem.le_of rfl (by simp [take_part]))) ?_
  rintro ⟨seen60, L61, n62⟩ t63
  simp only at t63
  simp [ha58]
  refine next_split2 (fun hd => ?_) (fun e he hp => ?_)
  rotate_left
  · obtain ⟨s, x, hs, hx, hr⟩ := hk59 e he
    have hf := find_born2 he hu64
    obtain ⟨L', u', t'⟩ := tabI_step (e := e) 83 [] 84 [.ptr (S.length + 7) (n62) 0] t63 (fun e1 h1 h2 => hu64 e1 h1 e he h2) hs hr
    simp only [rowA] at u'
    
    have one : Value.nilFunc.oneCell' = true := rfl
    simp [hf, hs, hx, isKey, u', one]
    exact ⟨seen60 ++ [e.2.2], L', t', n62 + 1, by simpa using unseen_less he (by simpa using hp), Sim.of_le (Env.le_of (by simp)) (Mem.le_of rfl (by simp [take_part]))⟩
  have t66 := tabI_done t63 (fun e he => by simpa using hd e he) hx65
  clear t63
  have m67 : updA (.str ⟨#[70, 73, 88, 69, 68]⟩) (.int .i64 0) [] = some [(.str ⟨#[70, 73, 88, 69, 68]⟩, .int .i64 0)] := upd_lit (ss := []) (by decide)
  have m68 : updA (.str ⟨#[66, 73, 78, 65, 82, 89]⟩) (.int .i64 1) [(.str ⟨#[70, 73, 88, 69, 68]⟩, .int .i64 0)] = some [(.str ⟨#[70, 73, 88, 69, 68]⟩, .int .i64 0), (.str ⟨#[66, 73, 78, 65, 82, 89]⟩, .int .i64 1)] := upd_lit (ss := [(⟨#[70, 73, 88, 69, 68]⟩, .int .i64 0)]) (by decide)
  have m69 : updA (.str ⟨#[68, 69, 67, 73, 77, 65, 76]⟩) (.int .i64 2) [(.str ⟨#[70, 73, 88, 69, 68]⟩, .int .i64 0), (.str ⟨#[66, 73, 78, 65, 82, 89]⟩, .int .i64 1)] = some [(.str ⟨#[70, 73, 88, 69, 68]⟩, .int .i64 0), (.str ⟨#[66, 73, 78, 65, 82, 89]⟩, .int .i64 1), (.str ⟨#[68, 69, 67, 73, 77, 65, 76]⟩, .int .i64 2)] := upd_lit (ss := [(⟨#[70, 73, 88, 69, 68]⟩, .int .i64 0), (⟨#[66, 73, 78, 65, 82, 89]⟩, .int .i64 1)]) (by decide)
  have m70 : updA (.str ⟨#[70, 76, 79, 65, 84]⟩) (.int .i64 3) [(.str ⟨#[70, 73, 88, 69, 68]⟩, .int .i64 0), (.str ⟨#[66, 73, 78, 65, 82, 89]⟩, .int .i64 1), (.str ⟨#[68, 69, 67, 73, 77, 65, 76]⟩, .int .i64 2)] = some [(.str ⟨#[70, 73, 88, 69, 68]⟩, .int .i64 0), (.str ⟨#[66, 73, 78, 65, 82, 89]⟩, .int .i64 1), (.str ⟨#[68, 69, 67, 73, 77, 65, 76]⟩, .int .i64 2), (.str ⟨#[70, 76, 79, 65, 84]⟩, .int .i64 3)] := upd_lit (ss := [(⟨#[70, 73, 88, 69, 68]⟩, .int .i64 0), (⟨#[66, 73, 78, 65, 82, 89]⟩, .int .i64 1), (⟨#[68, 69, 67, 73, 77, 65, 76]⟩, .int .i64 2)]) (by decide)
  simp [isKey, m67, m68, m69, m70]
  intro bs71 cl72 hb73 hl74
  obtain ⟨es75, he76⟩ : ∃ es, es = zipB [(AV.str ⟨#[70, 73, 88, 69, 68]⟩, AV.int .i64 0), (AV.str ⟨#[66, 73, 78, 65, 82, 89]⟩, AV.int .i64 1), (AV.str ⟨#[68, 69, 67, 73, 77, 65, 76]⟩, AV.int .i64 2), (AV.str ⟨#[70, 76, 79, 65, 84]⟩, AV.int .i64 3)] bs71 := ⟨_, rfl⟩
  have ha77 : es75.all (fun e => e.2.2 < cl72) = true := by rw [he76]; exact born_all hb73
  have hu83 : ∀ e1 ∈ es75, ∀ e2 ∈ es75, e1.2.2 = e2.2.2 → e1 = e2 := by rw [he76]; exact zipB_uniq hb73.1
  have hx84 : ∀ k r, lkF [(⟨#[70, 73, 88, 69, 68]⟩, 1, 3, none), (⟨#[66, 73, 78, 65, 82, 89]⟩, 1, 3, none), (⟨#[68, 69, 67, 73, 77, 65, 76]⟩, 1, 3, none), (⟨#[70, 76, 79, 65, 84]⟩, 1, 2, none)] k = some r → ∃ e ∈ es75, e.1 = .str k := by
    intro k r hr
    have hk : (AV.str k) ∈ ([(AV.str ⟨#[70, 73, 88, 69, 68]⟩, AV.int .i64 0), (AV.str ⟨#[66, 73, 78, 65, 82, 89]⟩, AV.int .i64 1), (AV.str ⟨#[68, 69, 67, 73, 77, 65, 76]⟩, AV.int .i64 2), (AV.str ⟨#[70, 76, 79, 65, 84]⟩, AV.int .i64 3)]).map Prod.fst := List.mem_map_of_mem (f := AV.str) (lkF_mem hr)
    obtain ⟨e, he, hek⟩ := List.mem_map.1 hk
    rw [he76, ← hek]
    exact zipB_all (by simpa using hl74) _ _ he
  have hk78 : ∀ e ∈ es75, ∃ s x, e.1 = .str s ∧ e.2.1 = .int .i64 x ∧ lkF [(⟨#[70, 73, 88, 69, 68]⟩, 1, 3, none), (⟨#[66, 73, 78, 65, 82, 89]⟩, 1, 3, none), (⟨#[68, 69, 67, 73, 77, 65, 76]⟩, 1, 3, none), (⟨#[70, 76, 79, 65, 84]⟩, 1, 2, none)] s = some (1, (if x = 3 then 2 else 3), none) := by
    intro e he
    rw [he76] at he
    have h1 := (zipB_mem he).1
    simp only [List.mem_cons, List.not_mem_nil, or_false, Prod.mk.injEq] at h1
    rcases h1 with ⟨h1, h2⟩ | ⟨h1, h2⟩ | ⟨h1, h2⟩ | ⟨h1, h2⟩ <;> exact ⟨_, _, h1, h2, by first | rfl | simp [lkF]⟩
  rw [← he76]
  refine wpS_loopS (ι := List Nat × List (AV × AV) × Nat) (fun _ => [(0, .map S.length g), (57, .ptr (S.length + 8) (n62 + 1) 0)]) (fun s => ⟨S ++ [(g, .map s.2.1), (nx, .emap es14 cl11), (nx + 1, .iter (S.length + 1) (nx) cl11 seen18 cl11), (n20, .emap es37 cl34), (n20 + 1, .iter (S.length + 3) (n20) cl34 seen41 cl34), (n43, .emap es56 cl53), (n43 + 1, .iter (S.length + 5) (n43) cl53 seen60 cl53), (n62, .emap es75 cl72), (n62 + 1, .iter (S.length + 7) (n62) cl72 s.1 cl72)], s.2.2⟩)
    (fun s => (es75.filter fun x => !s.1.contains x.2.2).length) (fun s => TabI [(⟨#[70, 73, 88, 69, 68]⟩, 1, 3, none), (⟨#[66, 73, 78, 65, 82, 89]⟩, 1, 3, none), (⟨#[68, 69, 67, 73, 77, 65, 76]⟩, 1, 3, none), (⟨#[70, 76, 79, 65, 84]⟩, 1, 2, none)] ([(⟨#[65, 68, 68]⟩, 3, 4, none), (⟨#[83, 85, 66, 84, 82, 65, 67, 84]⟩, 3, 4, none), (⟨#[77, 85, 76, 84, 73, 80, 76, 89]⟩, 3, 4, none), (⟨#[68, 73, 86, 73, 68, 69]⟩, 3, 4, none)] ++ ([(⟨#[77, 65, 88]⟩, 1, 20, none), (⟨#[77, 73, 78]⟩, 1, 20, none)] ++ ((⟨#[77, 79, 68]⟩, 2, 2, some (75, 76)) :: ((⟨#[82, 79, 85, 78, 68]⟩, 2, 2, some (73, 74)) :: ([(⟨#[70, 76, 79, 79, 82]⟩, 1, 1, none), (⟨#[67, 69, 73, 76]⟩, 1, 1, none), (⟨#[84, 82, 85, 78, 67]⟩, 1, 1, none)] ++ ((⟨#[83, 73, 71, 78]⟩, 1, 1, some (65, 68)) :: ((⟨#[65, 66, 83]⟩, 1, 1, some (61, 62)) :: (l)))))))) es75 s.1 s.2.1) ([], L61, n62 + 2) (tabI_start _ _ t66) (Sim.of_le (Env.le_of (by simp)) (Mem.le_of rfl (by simp [take_part]))) ?_
  rintro ⟨seen79, L80, n81⟩ t82
  simp only at t82
  simp [ha77]
  refine next_split2 (fun hd => ?_) (fun e he hp => ?_)
  rotate_left
  · obtain ⟨s, x, hs, hx, hr⟩ := hk78 e he
    have hf := find_born2 he hu83
    simp [hf, hs, hx, isKey]
    refine br_cond rfl (fun h5 => ?_) (fun h5 => ?_)
    · rw [if_pos (eqI_t.1 h5)] at hr
      obtain ⟨L', u', t'⟩ := tabI_step (e := e) 87 [.ptr (S.length + 9) (n81) 0] 89 [] t82 (fun e1 h1 h2 => hu83 e1 h1 e he h2) hs hr
      simp only [rowA] at u'
      simp [isKey, u']
      exact ⟨seen79 ++ [e.2.2], L', t', n81 + 1, by simpa using unseen_less he (by simpa using hp), Sim.of_le (Env.le_of (by simp)) (Mem.le_of rfl (by simp [take_part]))⟩
    · rw [if_neg (eqI_f.1 h5)] at hr
      obtain ⟨L', u', t'⟩ := tabI_step (e := e) 87 [.ptr (S.length + 9) (n81) 0] 89 [] t82 (fun e1 h1 h2 => hu83 e1 h1 e he h2) hs hr
      simp only [rowA] at u'
      simp [isKey, u']
      exact ⟨seen79 ++ [e.2.2], L', t', n81 + 1, by simpa using unseen_less he (by simpa using hp), Sim.of_le (Env.le_of (by simp)) (Mem.le_of rfl (by simp [take_part]))⟩
  have t85 := tabI_done t82 (fun e he => by simpa using hd e he) hx84
  clear t82
  simp [cr44]
  exact ⟨⟨S ++ [(g, .map L80)], _⟩, Mem.le_of rfl (by simp [take_part]), _, ⟨_, rfl⟩, t85⟩

def l45 (l : List (ByteArray × RKey)) : List (ByteArray × RKey) := (⟨#[86, 69, 82, 73, 70, 89]⟩, 2, 2, none) :: ((⟨#[73, 78, 68, 69, 88]⟩, 2, 2, none) :: ((⟨#[83, 85, 66, 83, 84, 82]⟩, 2, 3, some (95, 96)) :: ((⟨#[76, 69, 78, 71, 84, 72]⟩, 1, 1, some (90, 94)) :: (l))))
set_option maxHeartbeats 16000000 in
theorem call45N {S : List (Nat × AObj)} {g nx : Nat} {l : List (ByteArray × RKey)} {L : List (AV × AV)} (hL : TabN l L) :
    ACalls Bk.pg 45 [.map S.length g] ⟨S ++ [(g, .map L)], nx⟩ fun out m' => out = .ret (.tuple []) ∧ ∃ L' nx', m' = ⟨S ++ [(g, .map L')], nx'⟩ ∧ TabN (l45 l) L' := by
  refine ACalls.forget (ok45.acalls (by simp) ?_)
  have one : Value.nilFunc.oneCell' = true := rfl
  obtain ⟨L1, u2, t3⟩ := upd_tabN ⟨#[76, 69, 78, 71, 84, 72]⟩ 1 1 90 94 hL
  simp only [rowA] at u2
  obtain ⟨L4, u5, t6⟩ := upd_tabN ⟨#[83, 85, 66, 83, 84, 82]⟩ 2 3 95 96 t3
  simp only [rowA] at u5
  obtain ⟨L7, u8, t9⟩ := upd_tabN0 ⟨#[73, 78, 68, 69, 88]⟩ 2 2 90 [] 97 [.ptr (S.length + 1) nx 0] t6
  simp only [rowA] at u8
  obtain ⟨L10, u11, t12⟩ := upd_tabN0 ⟨#[86, 69, 82, 73, 70, 89]⟩ 2 2 90 [] 99 [.ptr (S.length + 1) nx 0] t9
  simp only [rowA] at u11
  simp [c45, isKey, u2, u5, u8, u11, one, cr45]
  exact ⟨⟨S ++ [(g, .map L10)], _⟩, Mem.le_of rfl (by simp [take_part]), _, ⟨_, rfl⟩, t12⟩

def l46 (l : List (ByteArray × RKey)) : List (ByteArray × RKey) := [(⟨#[72, 73, 71, 72]⟩, 1, 1, none), (⟨#[76, 79, 87]⟩, 1, 1, none)] ++ ([(⟨#[67, 72, 65, 82]⟩, 1, 2, none), (⟨#[66, 73, 84]⟩, 1, 2, none)] ++ ((⟨#[66, 79, 79, 76]⟩, 3, 3, some (114, 115)) :: ((⟨#[83, 84, 82, 73, 78, 71]⟩, 1, 1, some (101, 113)) :: ((⟨#[82, 69, 86, 69, 82, 83, 69]⟩, 1, 1, some (101, 111)) :: ((⟨#[67, 79, 80, 89]⟩, 2, 2, some (106, 110)) :: ((⟨#[82, 69, 80, 69, 65, 84]⟩, 2, 2, some (106, 108)) :: ((⟨#[84, 82, 65, 78, 83, 76, 65, 84, 69]⟩, 3, 3, some (102, 103)) :: (l))))))))
set_option maxHeartbeats 16000000 in
theorem call46N {S : List (Nat × AObj)} {g nx : Nat} {l : List (ByteArray × RKey)} {L : List (AV × AV)} (hL : TabN l L) :
    ACalls Bk.pg 46 [.map S.length g] ⟨S ++ [(g, .map L)], nx⟩ fun out m' => out = .ret (.tuple []) ∧ ∃ L' nx', m' = ⟨S ++ [(g, .map L')], nx'⟩ ∧ TabN (l46 l) L' := by
  refine ACalls.forget (ok46.acalls (by simp) ?_)
  have one : Value.nilFunc.oneCell' = true := rfl
  obtain ⟨L1, u2, t3⟩ := upd_tabN ⟨#[84, 82, 65, 78, 83, 76, 65, 84, 69]⟩ 3 3 102 103 hL
  simp only [rowA] at u2
  obtain ⟨L4, u5, t6⟩ := upd_tabN ⟨#[82, 69, 80, 69, 65, 84]⟩ 2 2 106 108 t3
  simp only [rowA] at u5
  obtain ⟨L7, u8, t9⟩ := upd_tabN ⟨#[67, 79, 80, 89]⟩ 2 2 106 110 t6
  simp only [rowA] at u8
  obtain ⟨L10, u11, t12⟩ := upd_tabN ⟨#[82, 69, 86, 69, 82, 83, 69]⟩ 1 1 101 111 t9
  simp only [rowA] at u11
  obtain ⟨L13, u14, t15⟩ := upd_tabN ⟨#[83, 84, 82, 73, 78, 71]⟩ 1 1 101 113 t12
  simp only [rowA] at u14
  obtain ⟨L16, u17, t18⟩ := upd_tabN ⟨#[66, 79, 79, 76]⟩ 3 3 114 115 t15
  simp only [rowA] at u17
  have m19 : updA (.str ⟨#[67, 72, 65, 82]⟩) (.int .i64 4) [] = some [(.str ⟨#[67, 72, 65, 82]⟩, .int .i64 4)] := upd_lit (ss := []) (by decide)
  have m20 : updA (.str ⟨#[66, 73, 84]⟩) (.int .i64 5) [(.str ⟨#[67, 72, 65, 82]⟩, .int .i64 4)] = some [(.str ⟨#[67, 72, 65, 82]⟩, .int .i64 4), (.str ⟨#[66, 73, 84]⟩, .int .i64 5)] := upd_lit (ss := [(⟨#[67, 72, 65, 82]⟩, .int .i64 4)]) (by decide)
  simp [c46, isKey, u2, u5, u8, u11, u14, u17, m19, m20]
  intro bs21 cl22 hb23 hl24
  obtain ⟨es25, he26⟩ : ∃ es, es = zipB [(AV.str ⟨#[67, 72, 65, 82]⟩, AV.int .i64 4), (AV.str ⟨#[66, 73, 84]⟩, AV.int .i64 5)] bs21 := ⟨_, rfl⟩
  have ha27 : es25.all (fun e => e.2.2 < cl22) = true := by rw [he26]; exact born_all hb23
  have hu33 : ∀ e1 ∈ es25, ∀ e2 ∈ es25, e1.2.2 = e2.2.2 → e1 = e2 := by rw [he26]; exact zipB_uniq hb23.1
  have hx34 : ∀ k r, lkF [(⟨#[67, 72, 65, 82]⟩, 1, 2, none), (⟨#[66, 73, 84]⟩, 1, 2, none)] k = some r → ∃ e ∈ es25, e.1 = .str k := by
    intro k r hr
    have hk : (AV.str k) ∈ ([(AV.str ⟨#[67, 72, 65, 82]⟩, AV.int .i64 4), (AV.str ⟨#[66, 73, 84]⟩, AV.int .i64 5)]).map Prod.fst := List.mem_map_of_mem (f := AV.str) (lkF_mem hr)
    obtain ⟨e, he, hek⟩ := List.mem_map.1 hk
    rw [he26, ← hek]
    exact zipB_all (by simpa using hl24) _ _ he
  have hk28 : ∀ e ∈ es25, ∃ s x, e.1 = .str s ∧ e.2.1 = .int .i64 x ∧ lkF [(⟨#[67, 72, 65, 82]⟩, 1, 2, none), (⟨#[66, 73, 84]⟩, 1, 2, none)] s = some (1, 2, none) := by
    intro e he
    rw [he26] at he
    have h1 := (zipB_mem he).1
    simp only [List.mem_cons, List.not_mem_nil, or_false, Prod.mk.injEq] at h1
    rcases h1 with ⟨h1, h2⟩ | ⟨h1, h2⟩ <;> exact ⟨_, _, h1, h2, by first | rfl | simp [lkF]⟩
  rw [← he26]
  refine wpS_loopS (ι := List Nat × List (AV × AV) × Nat) (fun _ => [(0, .map S.length g), (26, .ptr (S.length + 2) (nx + 1) 0)]) (fun s => ⟨S ++ [(g, .map s.2.1), (nx, .emap es25 cl22), (nx + 1, .iter (S.length + 1) (nx) cl22 s.1 cl22)], s.2.2⟩)
    (fun s => (es25.filter fun x => !s.1.contains x.2.2).length) (fun s => TabI [(⟨#[67, 72, 65, 82]⟩, 1, 2, none), (⟨#[66, 73, 84]⟩, 1, 2, none)] ((⟨#[66, 79, 79, 76]⟩, 3, 3, some (114, 115)) :: ((⟨#[83, 84, 82, 73, 78, 71]⟩, 1, 1, some (101, 113)) :: ((⟨#[82, 69, 86, 69, 82, 83, 69]⟩, 1, 1, some (101, 111)) :: ((⟨#[67, 79, 80, 89]⟩, 2, 2, some (106, 110)) :: ((⟨#[82, 69, 80, 69, 65, 84]⟩, 2, 2, some (106, 108)) :: ((⟨#[84, 82, 65, 78, 83, 76, 65, 84, 69]⟩, 3, 3, some (102, 103)) :: (l))))))) es25 s.1 s.2.1) ([], L16, nx + 2) (tabI_start _ _ t18) (Sim.of_le (Env.le_of (by simp)) (Mem.le_of rfl (by simp [take_part]))) ?_
  rintro ⟨seen29, L30, n31⟩ t32
  simp only at t32
  simp [ha27]
  refine next_split2 (fun hd => ?_) (fun e he hp => ?_)
  rotate_left
  · obtain ⟨s, x, hs, hx, hr⟩ := hk28 e he
    have hf := find_born2 he hu33
    obtain ⟨L', u', t'⟩ := tabI_step (e := e) 118 [.ptr (S.length + 3) (n31) 0] 121 [] t32 (fun e1 h1 h2 => hu33 e1 h1 e he h2) hs hr
    simp only [rowA] at u'
    
    have one : Value.nilFunc.oneCell' = true := rfl
    simp [hf, hs, hx, isKey, u', one]
    exact ⟨seen29 ++ [e.2.2], L', t', n31 + 1, by simpa using unseen_less he (by simpa using hp), Sim.of_le (Env.le_of (by simp)) (Mem.le_of rfl (by simp [take_part]))⟩
  have t35 := tabI_done t32 (fun e he => by simpa using hd e he) hx34
  clear t32
  have m36 : updA (.str ⟨#[72, 73, 71, 72]⟩) (.fn 123 []) [] = some [(.str ⟨#[72, 73, 71, 72]⟩, .fn 123 [])] := upd_lit (ss := []) (by decide)
  have m37 : updA (.str ⟨#[76, 79, 87]⟩) (.fn 124 []) [(.str ⟨#[72, 73, 71, 72]⟩, .fn 123 [])] = some [(.str ⟨#[72, 73, 71, 72]⟩, .fn 123 []), (.str ⟨#[76, 79, 87]⟩, .fn 124 [])] := upd_lit (ss := [(⟨#[72, 73, 71, 72]⟩, .fn 123 [])]) (by decide)
  simp [isKey, m36, m37]
  intro bs38 cl39 hb40 hl41
  obtain ⟨es42, he43⟩ : ∃ es, es = zipB [(AV.str ⟨#[72, 73, 71, 72]⟩, AV.fn 123 []), (AV.str ⟨#[76, 79, 87]⟩, AV.fn 124 [])] bs38 := ⟨_, rfl⟩
  have ha44 : es42.all (fun e => e.2.2 < cl39) = true := by rw [he43]; exact born_all hb40
  have hu50 : ∀ e1 ∈ es42, ∀ e2 ∈ es42, e1.2.2 = e2.2.2 → e1 = e2 := by rw [he43]; exact zipB_uniq hb40.1
  have hx51 : ∀ k r, lkF [(⟨#[72, 73, 71, 72]⟩, 1, 1, none), (⟨#[76, 79, 87]⟩, 1, 1, none)] k = some r → ∃ e ∈ es42, e.1 = .str k := by
    intro k r hr
    have hk : (AV.str k) ∈ ([(AV.str ⟨#[72, 73, 71, 72]⟩, AV.fn 123 []), (AV.str ⟨#[76, 79, 87]⟩, AV.fn 124 [])]).map Prod.fst := List.mem_map_of_mem (f := AV.str) (lkF_mem hr)
    obtain ⟨e, he, hek⟩ := List.mem_map.1 hk
    rw [he43, ← hek]
    exact zipB_all (by simpa using hl41) _ _ he
  have hk45 : ∀ e ∈ es42, ∃ s x, e.1 = .str s ∧ e.2.1 = .fn x [] ∧ lkF [(⟨#[72, 73, 71, 72]⟩, 1, 1, none), (⟨#[76, 79, 87]⟩, 1, 1, none)] s = some (1, 1, none) := by
    intro e he
    rw [he43] at he
    have h1 := (zipB_mem he).1
    simp only [List.mem_cons, List.not_mem_nil, or_false, Prod.mk.injEq] at h1
    rcases h1 with ⟨h1, h2⟩ | ⟨h1, h2⟩ <;> exact ⟨_, _, h1, h2, by first | rfl | simp [lkF]⟩
  rw [← he43]
  refine wpS_loopS (ι := List Nat × List (AV × AV) × Nat) (fun _ => [(0, .map S.length g), (38, .ptr (S.length + 4) (n31 + 1) 0)]) (fun s => ⟨S ++ [(g, .map s.2.1), (nx, .emap es25 cl22), (nx + 1, .iter (S.length + 1) (nx) cl22 seen29 cl22), (n31, .emap es42 cl39), (n31 + 1, .iter (S.length + 3) (n31) cl39 s.1 cl39)], s.2.2⟩)
    (fun s => (es42.filter fun x => !s.1.contains x.2.2).length) (fun s => TabI [(⟨#[72, 73, 71, 72]⟩, 1, 1, none), (⟨#[76, 79, 87]⟩, 1, 1, none)] ([(⟨#[67, 72, 65, 82]⟩, 1, 2, none), (⟨#[66, 73, 84]⟩, 1, 2, none)] ++ ((⟨#[66, 79, 79, 76]⟩, 3, 3, some (114, 115)) :: ((⟨#[83, 84, 82, 73, 78, 71]⟩, 1, 1, some (101, 113)) :: ((⟨#[82, 69, 86, 69, 82, 83, 69]⟩, 1, 1, some (101, 111)) :: ((⟨#[67, 79, 80, 89]⟩, 2, 2, some (106, 110)) :: ((⟨#[82, 69, 80, 69, 65, 84]⟩, 2, 2, some (106, 108)) :: ((⟨#[84, 82, 65, 78, 83, 76, 65, 84, 69]⟩, 3, 3, some (102, 103)) :: (l)))))))) es42 s.1 s.2.1) ([], L30, n31 + 2) (tabI_start _ _ t35) (Sim.of_le (Env.le_of (by simp)) (Mem.le_of rfl (by simp [take_part]))) ?_
  rintro ⟨seen46, L47, n48⟩ t49
  simp only at t49
  simp [ha44]
  refine next_split2 (fun hd => ?_) (fun e he hp => ?_)
  rotate_left
  · obtain ⟨s, x, hs, hx, hr⟩ := hk45 e he
    have hf := find_born2 he hu50
    obtain ⟨L', u', t'⟩ := tabI_step (e := e) 125 [] 126 [.ptr (S.length + 5) (n48) 0] t49 (fun e1 h1 h2 => hu50 e1 h1 e he h2) hs hr
    simp only [rowA] at u'
    
    have one : Value.nilFunc.oneCell' = true := rfl
    simp [hf, hs, hx, isKey, u', one]
    exact ⟨seen46 ++ [e.2.2], L', t', n48 + 1, by simpa using unseen_less he (by simpa using hp), Sim.of_le (Env.le_of (by simp)) (Mem.le_of rfl (by simp [take_part]))⟩
  have t52 := tabI_done t49 (fun e he => by simpa using hd e he) hx51
  clear t49
  simp [cr46]
  exact ⟨⟨S ++ [(g, .map L47)], _⟩, Mem.le_of rfl (by simp [take_part]), _, ⟨_, rfl⟩, t52⟩

end Go.Pm

/- BkM3: contracts: the table; numbers from 0 on. -/
namespace Go.Pm
open Go Go.Proofs
attribute [-simp] List.getElem?_map
attribute [simp] nilCheckA postA_norm

theorem call27 {S : List (Nat × AObj)} {nx : Nat} : ACalls Bk.pg 27 [] ⟨S, nx⟩ fun out m' => out = .ret (.map S.length nx) ∧ ∃ L' nx', m' = ⟨S ++ [(nx, .map L')], nx'⟩ ∧ TabM L' := by
  refine ok27.acalls (by simp) ?_
  have h0 : TabK [] := fun e he => by cases he
  simp [c27]
  refine xcall_r (call44 (S := S) (g := nx) (nx := nx + 1) h0) ?_ ?_
  · rintro v m' ⟨hv, L1, n1, rfl, h1⟩
    cases hv
    simp
    refine xcall_r (call45 (S := S) (g := nx) (nx := n1) h1) ?_ ?_
    · rintro v m' ⟨hv, L2, n2, rfl, h2⟩
      cases hv
      simp
      refine xcall_r (call46 (S := S) (g := nx) (nx := n2) h2) ?_ ?_
      · rintro v m' ⟨hv, L3, n3, rfl, h3⟩
        cases hv
        simp [cr27, postA_ret]
        exact h3
      · rintro v m' ⟨hv, _⟩
        cases hv
    · rintro v m' ⟨hv, _⟩
      cases hv
  · rintro v m' ⟨hv, _⟩
    cases hv

/-- The table, of which the row of MOD is known. -/
theorem call27P : PCalls Bk.pg 27 [] fun out => out = .ret (.kmap nameM (.agg rowM)) := by
  refine pcalls_of_acalls 1 (ACalls.keepMap (s := nameM) (v := .agg rowM) ((call27 (S := []) (nx := 0)).mono ?_))
  rintro out m' ⟨rfl, L', nx', rfl, h1, h2⟩
  exact ⟨0, 0, L', rfl, rfl, h2, _, rfl, rfl⟩

theorem call30 {n : Int} {m : Mem} : ACalls Bk.pg 30 [.int .i64 n] m fun out m' => out = .ret (.fn 47 [.ptr m.store.length m.next 0]) ∧ m' = m.new (.cells [.int .i64 n]) := by
  refine ok30.acalls (by simp) ?_
  simp [c30, cr30, postA_ret, Mem.new]

theorem call47 {pos gen p g n : Nat} {Inv : Nat → Mem → Prop} {m0 : Mem} (hn : n ≤ 1000)
    (hY : ∀ i m, i < n → Inv i m → YCalls Bk.pg pos gen [.int .i64 (i : Nat)] m fun out m' => out = .ret (.bool true) ∧ Inv (i + 1) m')
    (hc : m0.obj p g = some (.cells [.int .i64 (n : Nat)]))
    (h0 : Inv 0 m0) : ACalls Bk.pg 47 [.yield pos gen, .ptr p g 0] m0 fun out m' => out = .ret (.tuple []) ∧ Inv n m' := by
  refine ok47.acalls (by simp) ?_
  simp only [Mem.obj] at hc
  simp [c47, hc]
  refine wpS_loop (ι := Nat × Mem) (fun s => [(0, .yield pos gen), (1, .ptr p g 0), (4, .int .i64 (n : Nat)), (5, .int .i64 (s.1 : Nat))]) (fun s => s.2) (fun s => n - s.1) (fun s => s.1 ≤ n ∧ Inv s.1 s.2) (0, m0) ⟨Nat.zero_le _, h0⟩ (Env.le_of (by simp)) rfl ?_
  rintro ⟨i, m⟩ ⟨hi, hI⟩
  simp only at hi hI
  have hwi : IntKind.i64.wrap ((i : Int) + 1) = (i : Int) + 1 := wrap64 (by omega) (by omega)
  simp
  refine br_cond rfl (fun h1 => ?_) (fun h1 => ?_)
  · have hlt : i < n := by have := ltI_t.1 h1; omega
    simp
    refine ⟨pos, gen, _, ⟨⟨rfl, rfl⟩, rfl⟩, ycall_r (hY i m hlt hI) ?_ ?_⟩
    · rintro v m' ⟨hv, hI'⟩
      cases hv
      simp [hwi]
      exact ⟨i + 1, m', ⟨by omega, hI'⟩, by omega, Env.le_of (by simp), Mem.le_refl _⟩
    · rintro v m' ⟨hv, _⟩
      cases hv
  · have hk0 : i = n := by have := ltI_f.1 h1; omega
    subst hk0
    simp [cr47, postA_norm]
    exact hI
end Go.Pm

/- BkS7: code, resolved. Printed by ShowSC.lean and genok.py. -/
namespace Go.Pm
open Go Go.Proofs

/-- ironbark/ironbarklaw08.BuiltNames -/
def c7 : SC :=
  (.seq (.ops [⟨(some 2), .plain .mv, [.lit (.bool false)], none⟩] [])
  (.seq (.seq (.ops [⟨(some 12), .plain .mv, [.tmp 0], none⟩,
    ⟨(some 13), .plain (.len 0), [.tmp 12], none⟩,
    ⟨(some 14), .plain (.bin .gtr), [.tmp 13, .lit (.int .i64 300)], none⟩] [12, 13])
  (.cond (.tmp 14)
   (.seq (.ops [⟨(some 15), .call 8, [], none⟩,
     ⟨(some 2), .plain .mv, [.tmp 15], none⟩] [15])
   .ret)
   .skip))
  (.seq (.ops [⟨(some 17), .plain .mv, [.tmp 0], none⟩,
    ⟨(some 18), .call 18, [.tmp 17], none⟩,
    ⟨(some 16), .plain .mv, [.tmp 18], none⟩,
    ⟨(some 19), .plain (.extract 0), [.tmp 16], none⟩,
    ⟨(some 20), .plain (.extract 1), [.tmp 16], none⟩,
    ⟨(some 21), .plain (.extract 2), [.tmp 16], none⟩,
    ⟨(some 3), .plain .mv, [.tmp 19], none⟩,
    ⟨(some 4), .plain .mv, [.tmp 20], none⟩,
    ⟨(some 5), .plain .mv, [.tmp 21], none⟩] [17, 18, 16, 19, 20, 21])
  (.seq (.ops [⟨(some 23), .plain .mv, [.tmp 0], none⟩,
    ⟨(some 24), .call 19, [.tmp 23], none⟩,
    ⟨(some 22), .plain .mv, [.tmp 24], none⟩,
    ⟨(some 25), .plain (.extract 0), [.tmp 22], none⟩,
    ⟨(some 26), .plain (.extract 1), [.tmp 22], none⟩,
    ⟨(some 27), .plain (.extract 2), [.tmp 22], none⟩,
    ⟨(some 6), .plain .mv, [.tmp 25], none⟩,
    ⟨(some 7), .plain .mv, [.tmp 26], none⟩,
    ⟨(some 8), .plain .mv, [.tmp 27], none⟩] [23, 24, 22, 25, 26, 27])
  (.seq (.ops [⟨(some 28), .call 20, [], none⟩,
    ⟨(some 29), .call 21, [], none⟩,
    ⟨(some 9), .plain .mv, [.tmp 28], none⟩,
    ⟨(some 10), .plain .mv, [.tmp 29], none⟩] [28, 29])
  (.seq (.seq (.ops [⟨(some 30), .plain .mv, [.tmp 0], none⟩,
    ⟨(some 31), .call 22, [.tmp 30], none⟩,
    ⟨(some 32), .plain .mv, [.tmp 0], none⟩,
    ⟨(some 33), .call 23, [.tmp 32], none⟩,
    ⟨(some 34), .plain (.eqBool true), [.tmp 31, .tmp 33], none⟩,
    ⟨(some 35), .plain .mv, [.tmp 34], none⟩,
    ⟨(some 36), .plain .mv, [.tmp 3], (some (35, false))⟩,
    ⟨(some 37), .plain .mv, [.tmp 6], (some (35, false))⟩,
    ⟨(some 38), .plain (.bin .neq), [.tmp 36, .tmp 37], (some (35, false))⟩,
    ⟨(some 39), .plain .pick, [.tmp 35, .lit (.bool true), .tmp 38], none⟩,
    ⟨(some 40), .plain .mv, [.tmp 39], none⟩,
    ⟨(some 41), .plain .mv, [.tmp 4], (some (40, false))⟩,
    ⟨(some 42), .plain .mv, [.tmp 7], (some (40, false))⟩,
    ⟨(some 43), .plain (.bin .neq), [.tmp 41, .tmp 42], (some (40, false))⟩,
    ⟨(some 44), .plain .pick, [.tmp 40, .lit (.bool true), .tmp 43], none⟩,
    ⟨(some 45), .plain .mv, [.tmp 44], none⟩,
    ⟨(some 46), .plain .mv, [.tmp 5], (some (45, false))⟩,
    ⟨(some 47), .plain .mv, [.tmp 8], (some (45, false))⟩,
    ⟨(some 48), .plain (.bin .neq), [.tmp 46, .tmp 47], (some (45, false))⟩,
    ⟨(some 49), .plain .pick, [.tmp 45, .lit (.bool true), .tmp 48], none⟩,
    ⟨(some 50), .plain .mv, [.tmp 49], none⟩,
    ⟨(some 51), .plain .mv, [.tmp 9], (some (50, false))⟩,
    ⟨(some 52), .plain (.len 1), [.tmp 51], (some (50, false))⟩,
    ⟨(some 53), .plain .mv, [.tmp 10], (some (50, false))⟩,
    ⟨(some 54), .plain (.len 1), [.tmp 53], (some (50, false))⟩,
    ⟨(some 55), .plain (.bin .neq), [.tmp 52, .tmp 54], (some (50, false))⟩,
    ⟨(some 56), .plain .pick, [.tmp 50, .lit (.bool true), .tmp 55], none⟩] [30, 31, 32, 33, 34, 35, 36, 37, 38, 39, 40, 41, 42, 43, 44, 45, 46, 47, 48, 49, 50, 51, 52, 53, 54, 55])
  (.cond (.tmp 56)
   (.seq (.ops [⟨(some 2), .plain .mv, [.lit (.bool false)], none⟩] [])
   .ret)
   .skip))
  (.seq (.seq (.ops [⟨(some 11), .plain .mv, [.lit (.int .i64 0)], none⟩] [])
  (.block 0
   (.loop
    (.seq (.seq (.ops [⟨(some 57), .plain .mv, [.tmp 11], none⟩,
      ⟨(some 58), .plain .mv, [.tmp 9], none⟩,
      ⟨(some 59), .plain (.len 1), [.tmp 58], none⟩,
      ⟨(some 60), .plain (.bin .lss), [.tmp 57, .tmp 59], none⟩] [57, 58, 59])
    (.cond (.tmp 60)
     .skip
     (.exit 0)))
    (.seq (.block 1
     (.seq (.draw (.step ⟨(some 63), .plain .mv, [.tmp 9], none⟩
       (.step ⟨(some 64), .plain .mv, [.tmp 11], none⟩
       (.step ⟨(some 65), .plain (.indexAddr 1), [.tmp 63, .tmp 64], none⟩
       (.step ⟨(some 66), .plain (.load false 1), [.tmp 65], none⟩
       (.step ⟨(some 67), .plain .mv, [.tmp 10], none⟩
       (.step ⟨(some 68), .plain .mv, [.tmp 11], none⟩
       (.step ⟨(some 69), .plain (.indexAddr 1), [.tmp 67, .tmp 68], none⟩
       (.step ⟨(some 70), .plain (.load false 1), [.tmp 69], none⟩
       (.step ⟨(some 71), .plain (.bin .neq), [.tmp 66, .tmp 70], none⟩
       .done))))))))) [63, 64, 65, 66, 67, 68, 69, 70])
     (.cond (.tmp 71)
      (.seq (.ops [⟨(some 2), .plain .mv, [.lit (.bool false)], none⟩] [])
      .ret)
      .skip)))
    (.ops [⟨(some 61), .plain .mv, [.tmp 11], none⟩,
      ⟨(some 62), .plain (.bin .add), [.tmp 61, .lit (.int .i64 1)], none⟩,
      ⟨(some 11), .plain .mv, [.tmp 62], none⟩] [61, 62]))))))
  (.seq (.ops [⟨(some 72), .call 8, [], none⟩,
    ⟨(some 2), .plain .mv, [.tmp 72], none⟩] [72])
  .ret))))))))
def cr7 : List Res := [(2, none)]
theorem ok7 : FOk Bk.pg.toProgram Bk.imp 7 c7 cr7 Tryz.f7.ntmps := ⟨Tryz.f7, _, Tryz.func7, rfl, by kernel_rfl, by kernel_rfl, by kernel_rfl, rfl⟩

/-- ironbark/built.Arguments -/
def c18 : SC :=
  (.seq (.ops [⟨(some 2), .plain .mv, [.lit (.int .i64 0)], none⟩,
    ⟨(some 3), .plain .mv, [.lit (.int .i64 0)], none⟩,
    ⟨(some 4), .plain .mv, [.lit (.int .i64 0)], none⟩] [])
  (.seq (.ops [⟨(some 8), .call 27, [], none⟩,
    ⟨(some 9), .plain .mv, [.tmp 0], none⟩,
    ⟨(some 10), .plain (.lookup .str (.agg [(.int .i64 0), (.int .i64 0), (.const .nilFunc), (.const .nilFunc)]) true), [.tmp 8, .tmp 9], none⟩,
    ⟨(some 7), .plain .mv, [.tmp 10], none⟩,
    ⟨(some 11), .plain (.extract 0), [.tmp 7], none⟩,
    ⟨(some 12), .plain (.extract 1), [.tmp 7], none⟩,
    ⟨(some 5), .plain (.alloc [(.int .i64 0), (.int .i64 0), (.const .nilFunc), (.const .nilFunc)]), [], none⟩,
    ⟨none, .plain (.store 4), [.tmp 5, .tmp 11], none⟩,
    ⟨(some 6), .plain .mv, [.tmp 12], none⟩] [8, 9, 10, 7, 11, 12])
  (.seq (.seq (.ops [⟨(some 13), .plain .mv, [.tmp 6], none⟩,
    ⟨(some 14), .plain (.un .not), [.tmp 13], none⟩] [13])
  (.cond (.tmp 14)
   (.seq (.ops [⟨(some 2), .plain .mv, [.lit (.int .i64 0)], none⟩,
     ⟨(some 3), .plain .mv, [.lit (.int .i64 0)], none⟩,
     ⟨(some 4), .plain .mv, [.lit (.int .i64 5)], none⟩] [])
   .ret)
   .skip))
  (.seq (.draw (.step ⟨(some 15), .plain (.fieldAddr 0), [.tmp 5], none⟩
    (.step ⟨(some 16), .plain (.load false 1), [.tmp 15], none⟩
    (.step ⟨(some 17), .plain (.fieldAddr 1), [.tmp 5], none⟩
    (.step ⟨(some 18), .plain (.load false 1), [.tmp 17], none⟩
    (.step ⟨(some 2), .plain .mv, [.tmp 16], none⟩
    (.step ⟨(some 3), .plain .mv, [.tmp 18], none⟩
    (.step ⟨(some 4), .plain .mv, [.lit (.int .i64 0)], none⟩
    .done))))))) [15, 16, 17, 18])
  .ret))))
def cr18 : List Res := [(2, none), (3, none), (4, none)]
theorem ok18 : FOk Bk.pg.toProgram Bk.imp 18 c18 cr18 Tryz.f18.ntmps := ⟨Tryz.f18, _, Tryz.func18, rfl, by kernel_rfl, by kernel_rfl, by kernel_rfl, rfl⟩

/-- ironbark/ironbarkref08.Arguments -/
def c19 : SC :=
  (.seq (.ops [⟨(some 2), .plain .mv, [.lit (.int .i64 0)], none⟩,
    ⟨(some 3), .plain .mv, [.lit (.int .i64 0)], none⟩,
    ⟨(some 4), .plain .mv, [.lit (.int .i64 0)], none⟩] [])
  (.seq (.seq (.ops [⟨(some 5), .plain .mv, [.tmp 0], none⟩,
    ⟨(some 6), .call 23, [.tmp 5], none⟩,
    ⟨(some 7), .plain (.un .not), [.tmp 6], none⟩] [5, 6])
  (.cond (.tmp 7)
   (.seq (.ops [⟨(some 2), .plain .mv, [.lit (.int .i64 0)], none⟩,
     ⟨(some 3), .plain .mv, [.lit (.int .i64 0)], none⟩,
     ⟨(some 4), .plain .mv, [.lit (.int .i64 5)], none⟩] [])
   .ret)
   .skip))
  (.seq (.seq (.ops [⟨(some 8), .plain .mv, [.tmp 0], none⟩] [])
  (.block 0
   (.seq (.seq (.ops [⟨(some 10), .plain (.bin .eql), [.tmp 8, .lit (.str ⟨#[65, 68, 68]⟩)], none⟩,
     ⟨(some 9), .plain .mv, [.tmp 10], none⟩] [10])
   (.cond (.tmp 9)
    .skip
    (.seq (.ops [⟨(some 11), .plain (.bin .eql), [.tmp 8, .lit (.str ⟨#[83, 85, 66, 84, 82, 65, 67, 84]⟩)], none⟩,
      ⟨(some 9), .plain .mv, [.tmp 11], none⟩] [11])
    (.cond (.tmp 9)
     .skip
     (.seq (.ops [⟨(some 12), .plain (.bin .eql), [.tmp 8, .lit (.str ⟨#[77, 85, 76, 84, 73, 80, 76, 89]⟩)], none⟩,
       ⟨(some 9), .plain .mv, [.tmp 12], none⟩] [12])
     (.cond (.tmp 9)
      .skip
      (.ops [⟨(some 13), .plain (.bin .eql), [.tmp 8, .lit (.str ⟨#[68, 73, 86, 73, 68, 69]⟩)], none⟩,
        ⟨(some 9), .plain .mv, [.tmp 13], none⟩] [13])))))))
   (.cond (.tmp 9)
    (.seq (.ops [⟨(some 2), .plain .mv, [.lit (.int .i64 3)], none⟩,
      ⟨(some 3), .plain .mv, [.lit (.int .i64 4)], none⟩,
      ⟨(some 4), .plain .mv, [.lit (.int .i64 0)], none⟩] [])
    .ret)
    (.seq (.seq (.ops [⟨(some 15), .plain (.bin .eql), [.tmp 8, .lit (.str ⟨#[66, 73, 78, 65, 82, 89]⟩)], none⟩,
      ⟨(some 14), .plain .mv, [.tmp 15], none⟩] [15])
    (.cond (.tmp 14)
     .skip
     (.seq (.ops [⟨(some 16), .plain (.bin .eql), [.tmp 8, .lit (.str ⟨#[68, 69, 67, 73, 77, 65, 76]⟩)], none⟩,
       ⟨(some 14), .plain .mv, [.tmp 16], none⟩] [16])
     (.cond (.tmp 14)
      .skip
      (.ops [⟨(some 17), .plain (.bin .eql), [.tmp 8, .lit (.str ⟨#[70, 73, 88, 69, 68]⟩)], none⟩,
        ⟨(some 14), .plain .mv, [.tmp 17], none⟩] [17])))))
    (.cond (.tmp 14)
     (.seq (.ops [⟨(some 2), .plain .mv, [.lit (.int .i64 1)], none⟩,
       ⟨(some 3), .plain .mv, [.lit (.int .i64 3)], none⟩,
       ⟨(some 4), .plain .mv, [.lit (.int .i64 0)], none⟩] [])
     .ret)
     (.seq (.seq (.ops [⟨(some 19), .plain (.bin .eql), [.tmp 8, .lit (.str ⟨#[70, 76, 79, 65, 84]⟩)], none⟩,
       ⟨(some 18), .plain .mv, [.tmp 19], none⟩] [19])
     (.cond (.tmp 18)
      .skip
      (.seq (.ops [⟨(some 20), .plain (.bin .eql), [.tmp 8, .lit (.str ⟨#[67, 72, 65, 82]⟩)], none⟩,
        ⟨(some 18), .plain .mv, [.tmp 20], none⟩] [20])
      (.cond (.tmp 18)
       .skip
       (.ops [⟨(some 21), .plain (.bin .eql), [.tmp 8, .lit (.str ⟨#[66, 73, 84]⟩)], none⟩,
         ⟨(some 18), .plain .mv, [.tmp 21], none⟩] [21])))))
     (.cond (.tmp 18)
      (.seq (.ops [⟨(some 2), .plain .mv, [.lit (.int .i64 1)], none⟩,
        ⟨(some 3), .plain .mv, [.lit (.int .i64 2)], none⟩,
        ⟨(some 4), .plain .mv, [.lit (.int .i64 0)], none⟩] [])
      .ret)
      (.seq (.ops [⟨(some 23), .plain (.bin .eql), [.tmp 8, .lit (.str ⟨#[83, 85, 66, 83, 84, 82]⟩)], none⟩,
        ⟨(some 22), .plain .mv, [.tmp 23], none⟩] [23])
      (.cond (.tmp 22)
       (.seq (.ops [⟨(some 2), .plain .mv, [.lit (.int .i64 2)], none⟩,
         ⟨(some 3), .plain .mv, [.lit (.int .i64 3)], none⟩,
         ⟨(some 4), .plain .mv, [.lit (.int .i64 0)], none⟩] [])
       .ret)
       (.seq (.seq (.ops [⟨(some 25), .plain (.bin .eql), [.tmp 8, .lit (.str ⟨#[77, 65, 88]⟩)], none⟩,
         ⟨(some 24), .plain .mv, [.tmp 25], none⟩] [25])
       (.cond (.tmp 24)
        .skip
        (.ops [⟨(some 26), .plain (.bin .eql), [.tmp 8, .lit (.str ⟨#[77, 73, 78]⟩)], none⟩,
          ⟨(some 24), .plain .mv, [.tmp 26], none⟩] [26])))
       (.cond (.tmp 24)
        (.seq (.ops [⟨(some 2), .plain .mv, [.lit (.int .i64 1)], none⟩,
          ⟨(some 3), .plain .mv, [.lit (.int .i64 20)], none⟩,
          ⟨(some 4), .plain .mv, [.lit (.int .i64 0)], none⟩] [])
        .ret)
        (.seq (.seq (.ops [⟨(some 28), .plain (.bin .eql), [.tmp 8, .lit (.str ⟨#[84, 82, 65, 78, 83, 76, 65, 84, 69]⟩)], none⟩,
          ⟨(some 27), .plain .mv, [.tmp 28], none⟩] [28])
        (.cond (.tmp 27)
         .skip
         (.ops [⟨(some 29), .plain (.bin .eql), [.tmp 8, .lit (.str ⟨#[66, 79, 79, 76]⟩)], none⟩,
           ⟨(some 27), .plain .mv, [.tmp 29], none⟩] [29])))
        (.cond (.tmp 27)
         (.seq (.ops [⟨(some 2), .plain .mv, [.lit (.int .i64 3)], none⟩,
           ⟨(some 3), .plain .mv, [.lit (.int .i64 3)], none⟩,
           ⟨(some 4), .plain .mv, [.lit (.int .i64 0)], none⟩] [])
         .ret)
         (.seq (.seq (.ops [⟨(some 31), .plain (.bin .eql), [.tmp 8, .lit (.str ⟨#[77, 79, 68]⟩)], none⟩,
           ⟨(some 30), .plain .mv, [.tmp 31], none⟩] [31])
         (.cond (.tmp 30)
          .skip
          (.seq (.ops [⟨(some 32), .plain (.bin .eql), [.tmp 8, .lit (.str ⟨#[82, 79, 85, 78, 68]⟩)], none⟩,
            ⟨(some 30), .plain .mv, [.tmp 32], none⟩] [32])
          (.cond (.tmp 30)
           .skip
           (.seq (.ops [⟨(some 33), .plain (.bin .eql), [.tmp 8, .lit (.str ⟨#[73, 78, 68, 69, 88]⟩)], none⟩,
             ⟨(some 30), .plain .mv, [.tmp 33], none⟩] [33])
           (.cond (.tmp 30)
            .skip
            (.seq (.ops [⟨(some 34), .plain (.bin .eql), [.tmp 8, .lit (.str ⟨#[86, 69, 82, 73, 70, 89]⟩)], none⟩,
              ⟨(some 30), .plain .mv, [.tmp 34], none⟩] [34])
            (.cond (.tmp 30)
             .skip
             (.seq (.ops [⟨(some 35), .plain (.bin .eql), [.tmp 8, .lit (.str ⟨#[82, 69, 80, 69, 65, 84]⟩)], none⟩,
               ⟨(some 30), .plain .mv, [.tmp 35], none⟩] [35])
             (.cond (.tmp 30)
              .skip
              (.ops [⟨(some 36), .plain (.bin .eql), [.tmp 8, .lit (.str ⟨#[67, 79, 80, 89]⟩)], none⟩,
                ⟨(some 30), .plain .mv, [.tmp 36], none⟩] [36])))))))))))
         (.cond (.tmp 30)
          (.seq (.ops [⟨(some 2), .plain .mv, [.lit (.int .i64 2)], none⟩,
            ⟨(some 3), .plain .mv, [.lit (.int .i64 2)], none⟩,
            ⟨(some 4), .plain .mv, [.lit (.int .i64 0)], none⟩] [])
          .ret)
          .skip))))))))))))))))
  (.seq (.ops [⟨(some 2), .plain .mv, [.lit (.int .i64 1)], none⟩,
    ⟨(some 3), .plain .mv, [.lit (.int .i64 1)], none⟩,
    ⟨(some 4), .plain .mv, [.lit (.int .i64 0)], none⟩] [])
  .ret))))
def cr19 : List Res := [(2, none), (3, none), (4, none)]
theorem ok19 : FOk Bk.pg.toProgram Bk.imp 19 c19 cr19 Tryz.f19.ntmps := ⟨Tryz.f19, _, Tryz.func19, rfl, by kernel_rfl, by kernel_rfl, by kernel_rfl, rfl⟩

/-- ironbark/built.Names -/
def c20 : SC :=
  (.seq (.ops [⟨(some 0), .plain .mv, [.lit .nilS], none⟩] [])
  (.seq (.ops [⟨(some 1), .call 27, [], none⟩,
    ⟨(some 2), .call 41, [.tmp 1], none⟩,
    ⟨(some 3), .call 40, [.tmp 2], none⟩,
    ⟨(some 0), .plain .mv, [.tmp 3], none⟩] [1, 2, 3])
  .ret))
def cr20 : List Res := [(0, none)]
theorem ok20 : FOk Bk.pg.toProgram Bk.imp 20 c20 cr20 Tryz.f20.ntmps := ⟨Tryz.f20, _, Tryz.func20, rfl, by kernel_rfl, by kernel_rfl, by kernel_rfl, rfl⟩

/-- ironbark/ironbarkref08.Names -/
def c21 : SC :=
  (.seq (.ops [⟨(some 0), .plain .mv, [.lit .nilS], none⟩] [])
  (.seq (.ops [⟨(some 1), .call 42, [], none⟩,
    ⟨(some 0), .plain .mv, [.tmp 1], none⟩] [1])
  .ret))
def cr21 : List Res := [(0, none)]
theorem ok21 : FOk Bk.pg.toProgram Bk.imp 21 c21 cr21 Tryz.f21.ntmps := ⟨Tryz.f21, _, Tryz.func21, rfl, by kernel_rfl, by kernel_rfl, by kernel_rfl, rfl⟩

/-- ironbark/built.Is -/
def c22 : SC :=
  (.seq (.ops [⟨(some 2), .plain .mv, [.lit (.bool false)], none⟩] [])
  (.seq (.ops [⟨(some 6), .call 27, [], none⟩,
    ⟨(some 7), .plain .mv, [.tmp 0], none⟩,
    ⟨(some 8), .plain (.lookup .str (.agg [(.int .i64 0), (.int .i64 0), (.const .nilFunc), (.const .nilFunc)]) true), [.tmp 6, .tmp 7], none⟩,
    ⟨(some 5), .plain .mv, [.tmp 8], none⟩,
    ⟨(some 9), .plain (.extract 0), [.tmp 5], none⟩,
    ⟨(some 10), .plain (.extract 1), [.tmp 5], none⟩,
    ⟨(some 3), .plain (.alloc [(.int .i64 0), (.int .i64 0), (.const .nilFunc), (.const .nilFunc)]), [], none⟩,
    ⟨none, .plain (.store 4), [.tmp 3, .tmp 9], none⟩,
    ⟨(some 4), .plain .mv, [.tmp 10], none⟩] [6, 7, 8, 5, 9, 10, 3])
  (.seq (.ops [⟨(some 11), .plain .mv, [.tmp 4], none⟩,
    ⟨(some 2), .plain .mv, [.tmp 11], none⟩] [11])
  .ret)))
def cr22 : List Res := [(2, none)]
theorem ok22 : FOk Bk.pg.toProgram Bk.imp 22 c22 cr22 Tryz.f22.ntmps := ⟨Tryz.f22, _, Tryz.func22, rfl, by kernel_rfl, by kernel_rfl, by kernel_rfl, rfl⟩

/-- ironbark/ironbarkref08.Is -/
def c23 : SC :=
  (.seq (.ops [⟨(some 2), .plain .mv, [.lit (.bool false)], none⟩] [])
  (.seq (.ops [⟨(some 5), .call 42, [], none⟩,
    ⟨(some 3), .plain .mv, [.tmp 5], none⟩] [5])
  (.seq (.seq (.ops [⟨(some 4), .plain .mv, [.lit (.int .i64 0)], none⟩] [])
  (.block 0
   (.loop
    (.seq (.seq (.ops [⟨(some 6), .plain .mv, [.tmp 4], none⟩,
      ⟨(some 7), .plain .mv, [.tmp 3], none⟩,
      ⟨(some 8), .plain (.len 1), [.tmp 7], none⟩,
      ⟨(some 9), .plain (.bin .lss), [.tmp 6, .tmp 8], none⟩] [6, 7, 8])
    (.cond (.tmp 9)
     .skip
     (.exit 0)))
    (.seq (.block 1
     (.seq (.ops [⟨(some 12), .plain .mv, [.tmp 3], none⟩,
       ⟨(some 13), .plain .mv, [.tmp 4], none⟩,
       ⟨(some 14), .plain (.indexAddr 1), [.tmp 12, .tmp 13], none⟩,
       ⟨(some 15), .plain (.load false 1), [.tmp 14], none⟩,
       ⟨(some 16), .plain .mv, [.tmp 0], none⟩,
       ⟨(some 17), .plain (.bin .eql), [.tmp 15, .tmp 16], none⟩] [12, 13, 14, 15, 16])
     (.cond (.tmp 17)
      (.seq (.ops [⟨(some 2), .plain .mv, [.lit (.bool true)], none⟩] [])
      .ret)
      .skip)))
    (.ops [⟨(some 10), .plain .mv, [.tmp 4], none⟩,
      ⟨(some 11), .plain (.bin .add), [.tmp 10, .lit (.int .i64 1)], none⟩,
      ⟨(some 4), .plain .mv, [.tmp 11], none⟩] [10, 11]))))))
  (.seq (.ops [⟨(some 2), .plain .mv, [.lit (.bool false)], none⟩] [])
  .ret))))
def cr23 : List Res := [(2, none)]
theorem ok23 : FOk Bk.pg.toProgram Bk.imp 23 c23 cr23 Tryz.f23.ntmps := ⟨Tryz.f23, _, Tryz.func23, rfl, by kernel_rfl, by kernel_rfl, by kernel_rfl, rfl⟩

/-- slices.Sorted -/
def c40 : SC :=
  (.seq (.ops [⟨(some 2), .plain .mv, [.lit .nilS], none⟩] [])
  (.seq (.ops [⟨(some 4), .plain .mv, [.tmp 0], none⟩,
    ⟨(some 5), .call 58, [.tmp 4], none⟩,
    ⟨(some 3), .plain .mv, [.tmp 5], none⟩] [4, 5])
  (.seq (.ops [⟨(some 6), .plain .mv, [.tmp 3], none⟩,
    ⟨(some 7), .call 59, [.tmp 6], none⟩] [6, 7])
  (.seq (.ops [⟨(some 8), .plain .mv, [.tmp 3], none⟩,
    ⟨(some 2), .plain .mv, [.tmp 8], none⟩] [8])
  .ret))))
def cr40 : List Res := [(2, none)]
theorem ok40 : FOk Bk.pg.toProgram Bk.imp 40 c40 cr40 Tryz.f40.ntmps := ⟨Tryz.f40, _, Tryz.func40, rfl, by kernel_rfl, by kernel_rfl, by kernel_rfl, rfl⟩

/-- maps.Keys -/
def c41 : SC :=
  (.seq (.ops [⟨(some 1), .plain (.box 1), [.tmp 0], none⟩,
    ⟨(some 2), .plain .mv, [.lit (.const .nilFunc)], none⟩] [])
  (.seq (.ops [⟨(some 3), .plain (.mkFn 60), [.tmp 1], none⟩,
    ⟨(some 2), .plain .mv, [.tmp 3], none⟩] [3])
  .ret))
def cr41 : List Res := [(2, none)]
theorem ok41 : FOk Bk.pg.toProgram Bk.imp 41 c41 cr41 Tryz.f41.ntmps := ⟨Tryz.f41, _, Tryz.func41, rfl, by kernel_rfl, by kernel_rfl, by kernel_rfl, rfl⟩

/-- ironbark/ironbarkref08.names -/
def c42 : SC :=
  (.seq (.ops [⟨(some 0), .plain .mv, [.lit .nilS], none⟩] [])
  (.seq (.ops [⟨(some 1), .plain (.buildRow 9 1 31 [(.str ⟨#[]⟩)] [0, 1, 2, 3, 4, 5, 6, 7, 8, 9, 10, 11, 12, 13, 14, 15, 16, 17, 18, 19, 20, 21, 22, 23, 24, 25, 26, 27, 28, 29, 30]), [.lit (.str ⟨#[65, 66, 83]⟩), .lit (.str ⟨#[65, 68, 68]⟩), .lit (.str ⟨#[66, 73, 78, 65, 82, 89]⟩), .lit (.str ⟨#[66, 73, 84]⟩), .lit (.str ⟨#[66, 79, 79, 76]⟩), .lit (.str ⟨#[67, 69, 73, 76]⟩), .lit (.str ⟨#[67, 72, 65, 82]⟩), .lit (.str ⟨#[67, 79, 80, 89]⟩), .lit (.str ⟨#[68, 69, 67, 73, 77, 65, 76]⟩), .lit (.str ⟨#[68, 73, 86, 73, 68, 69]⟩), .lit (.str ⟨#[70, 73, 88, 69, 68]⟩), .lit (.str ⟨#[70, 76, 79, 65, 84]⟩), .lit (.str ⟨#[70, 76, 79, 79, 82]⟩), .lit (.str ⟨#[72, 73, 71, 72]⟩), .lit (.str ⟨#[73, 78, 68, 69, 88]⟩), .lit (.str ⟨#[76, 69, 78, 71, 84, 72]⟩), .lit (.str ⟨#[76, 79, 87]⟩), .lit (.str ⟨#[77, 65, 88]⟩), .lit (.str ⟨#[77, 73, 78]⟩), .lit (.str ⟨#[77, 79, 68]⟩), .lit (.str ⟨#[77, 85, 76, 84, 73, 80, 76, 89]⟩), .lit (.str ⟨#[82, 69, 80, 69, 65, 84]⟩), .lit (.str ⟨#[82, 69, 86, 69, 82, 83, 69]⟩), .lit (.str ⟨#[82, 79, 85, 78, 68]⟩), .lit (.str ⟨#[83, 73, 71, 78]⟩), .lit (.str ⟨#[83, 84, 82, 73, 78, 71]⟩), .lit (.str ⟨#[83, 85, 66, 83, 84, 82]⟩), .lit (.str ⟨#[83, 85, 66, 84, 82, 65, 67, 84]⟩), .lit (.str ⟨#[84, 82, 65, 78, 83, 76, 65, 84, 69]⟩), .lit (.str ⟨#[84, 82, 85, 78, 67]⟩), .lit (.str ⟨#[86, 69, 82, 73, 70, 89]⟩)], none⟩,
    ⟨(some 0), .plain .mv, [.tmp 1], none⟩] [1])
  .ret))
def cr42 : List Res := [(0, none)]
theorem ok42 : FOk Bk.pg.toProgram Bk.imp 42 c42 cr42 Tryz.f42.ntmps := ⟨Tryz.f42, _, Tryz.func42, rfl, by kernel_rfl, by kernel_rfl, by kernel_rfl, rfl⟩

/-- slices.Collect -/
def c58 : SC :=
  (.seq (.ops [⟨(some 2), .plain .mv, [.lit .nilS], none⟩] [])
  (.seq (.ops [⟨(some 3), .plain .mv, [.tmp 0], none⟩,
    ⟨(some 4), .call 155, [.lit .nilS, .tmp 3], none⟩,
    ⟨(some 2), .plain .mv, [.tmp 4], none⟩] [3, 4])
  .ret))
def cr58 : List Res := [(2, none)]
theorem ok58 : FOk Bk.pg.toProgram Bk.imp 58 c58 cr58 Tryz.f58.ntmps := ⟨Tryz.f58, _, Tryz.func58, rfl, by kernel_rfl, by kernel_rfl, by kernel_rfl, rfl⟩

/-- maps.Keys$1 -/
def c60 : SC :=
  (.seq (.ops [⟨(some 4), .plain (.load false 1), [.tmp 1], none⟩,
    ⟨(some 5), .many .rangeM, [.tmp 4], none⟩] [4])
  (.block 0
   (.loop
    (.seq (.ops [⟨(some 6), .many .next, [.tmp 5], none⟩,
      ⟨(some 7), .plain (.extract 0), [.tmp 6], none⟩] [6])
    (.seq (.cond (.tmp 7)
     .skip
     (.exit 0))
    (.block 1
     (.seq (.ops [⟨(some 8), .many .entry, [.tmp 5], none⟩,
       ⟨(some 9), .plain (.extract 0), [.tmp 8], none⟩,
       ⟨(some 3), .plain .mv, [.tmp 9], none⟩] [8, 9])
     (.seq (.ops [⟨(some 10), .plain .mv, [.tmp 0], none⟩,
       ⟨(some 11), .plain .mv, [.tmp 3], none⟩,
       ⟨(some 12), .callv, [.tmp 10, .tmp 11], none⟩,
       ⟨(some 13), .plain (.un .not), [.tmp 12], none⟩] [10, 11, 12])
     (.cond (.tmp 13)
      .ret
      .skip)))))))))
def cr60 : List Res := []
theorem ok60 : FOk Bk.pg.toProgram Bk.imp 60 c60 cr60 Tryz.f60.ntmps := ⟨Tryz.f60, _, Tryz.func60, rfl, by kernel_rfl, by kernel_rfl, by kernel_rfl, rfl⟩

/-- slices.AppendSeq -/
def c155 : SC :=
  (.seq (.ops [⟨(some 2), .plain (.box 1), [.tmp 0], none⟩,
    ⟨(some 4), .plain .mv, [.lit .nilS], none⟩] [])
  (.seq (.seq (.ops [⟨(some 6), .plain .mv, [.tmp 1], none⟩] [])
  (.block 0
   (.rangeF (.tmp 6) [7]
    (.ops [⟨(some 5), .plain .mv, [.tmp 7], none⟩] [])
    (.block 1
     (.ops [⟨(some 8), .plain (.load false 1), [.tmp 2], none⟩,
       ⟨(some 9), .plain .mv, [.tmp 5], none⟩,
       ⟨(some 10), .plain (.buildRow 9 1 1 [(.str ⟨#[]⟩)] [0]), [.tmp 9], none⟩,
       ⟨(some 11), .plain (.append 9 1 16), [.tmp 8, .tmp 10], none⟩,
       ⟨none, .plain (.store 1), [.tmp 2, .tmp 11], none⟩] [8, 9, 10, 11])))))
  (.seq (.ops [⟨(some 12), .plain (.load false 1), [.tmp 2], none⟩,
    ⟨(some 4), .plain .mv, [.tmp 12], none⟩] [12])
  .ret)))
def cr155 : List Res := [(4, none)]
theorem ok155 : FOk Bk.pg.toProgram Bk.imp 155 c155 cr155 Tryz.f155.ntmps := ⟨Tryz.f155, _, Tryz.func155, rfl, by kernel_rfl, by kernel_rfl, by kernel_rfl, rfl⟩

end Go.Pm
