/- LkC28: contracts: R34's Image says yes to an image that is well formed. -/
import Derived.Test.YtolfkdphlgkekaaLkC27
namespace Go.Pm
open Go Go.Proofs
attribute [-simp] List.getElem?_map

structure Img.Fine (x : Img) : Prop where
  base : baseF x.base = true
  end_ : x.base + x.code.size ≤ 65536
  dlen : x.defs.length ≤ 4000000000000
  llen : x.lines.length ≤ 4000000000000
  nlen : x.names.length ≤ 4000000000000
  dname : ∀ i, i < x.defs.length → (ix x.defs i).name.size ≤ 1048576 ∧ nameOk (ix x.defs i).name = true ∧ withinF (ix x.defs i).at_ x.base (x.base + x.code.size) = true
  dless : ∀ i, i + 1 < x.defs.length → ltS (ix x.defs i).name (ix x.defs (i + 1)).name = true
  nname : ∀ i, i < x.names.length → (ix x.names i).name.size ≤ 1048576 ∧ nameOk (ix x.names i).name = true ∧ withinF (ix x.names i).at_ x.base (x.base + x.code.size) = true ∧ eqI ((ix x.names i).at_.tmod 8) 0 = true
  nless : ∀ i, i + 1 < x.names.length → ltI (ix x.names (i + 1)).at_ (ix x.names i).at_ = false
  line : ∀ i, i < x.lines.length → withinF (ix x.lines i).at_ x.base (x.base + x.code.size) = true
  lless : ∀ i, i + 1 < x.lines.length → leI (ix x.lines (i + 1)).at_ (ix x.lines i).at_ = false

set_option maxHeartbeats 4000000 in
theorem call31 (x : Img) (hx : x.Fine) : PCalls Try.prog 31 [.agg x.av] fun out => out = .ret (.bool true) := by
  refine ok31.pcalls (by simp) ?_
  have hb := hx.base
  have he := hx.end_
  have hl1 := hx.dlen
  have hl2 := hx.llen
  have hl3 := hx.nlen
  have hb0 : 0 ≤ x.base ∧ x.base ≤ 65528 := by
    have hb2 := hb
    unfold baseF at hb2
    rw [Bool.and_eq_true] at hb2
    exact withinF_t hb2.1
  have hwe : IntKind.i64.wrap (x.base + x.code.size) = x.base + x.code.size := wrap64 (by omega) (by omega)
  have hgt : ltI 65536 (x.base + x.code.size) = false := ltI_f.2 he
  have h00 : ltI 0 0 = false := rfl
  have hw1 : IntKind.i64.wrap 1 = 1 := wrap64 (by omega) (by omega)
  simp [c31, Img.av, hwe]
  refine xcall_p (call35 x.base) rfl ?_
  simp [hb, hgt]
  generalize hE : x.base + (x.code.size : Int) = E at *
  refine wpS_loopS (ι := Nat) (fun i => [(1, .ptr 0 0 0), (3, .int .i64 E), (4, .int .i64 i)]) (fun _ => ⟨[(0, .cells x.av)], 1⟩) (fun i => x.defs.length - i) (fun i => i ≤ x.defs.length) 0 (Nat.zero_le _) (Sim.of_le (Env.le_of (by simp)) (Mem.le_of rfl (by simp [Img.av]))) ?_
  intro i hi
  have hw : IntKind.i64.wrap (i + 1) = i + 1 := wrap64 (by omega) (by omega)
  simp [Img.av]
  refine br_cond rfl (fun h => ?_) (fun h => ?_)
  · have hlt : i < x.defs.length := by have := ltI_t.1 h; omega
    obtain ⟨hd1, hd2, hd3⟩ := hx.dname i hlt
    simp [h, idxM, DDef.av]
    refine xdcall_p rfl (call61 _ hd1) rfl ?_
    simp [hd2, h, idxM, DDef.av]
    refine xdcall_p rfl (call62 (ix x.defs i).at_ x.base E) rfl ?_
    rw [hE] at hd3
    rcases Nat.eq_zero_or_pos i with hi0 | hi0
    · subst hi0
      simp [hd3, h00, hw1]
      exact ⟨1, by omega, by omega, Sim.of_le (Env.le_of (by simp)) (Mem.le_of rfl (by simp))⟩
    · have h0 : ltI 0 ↑i = true := ltI_t.2 (by omega)
      have hwm : IntKind.i64.wrap (i - 1) = ((i - 1 : Nat) : Int) := by rw [wrap64 (by omega) (by omega)]; omega
      have hj : ltI ↑(i - 1) ↑x.defs.length = true := ltN (by omega)
      have hls := hx.dless (i - 1) (by omega)
      rw [Nat.sub_add_cancel hi0] at hls
      simp [hd3, h0, hwm, hj, idxM, DDef.av, h, hls]
      simp [hw]
      exact ⟨i + 1, by omega, by omega, Sim.of_le (Env.le_of (by simp)) (Mem.le_of rfl (by simp))⟩
  simp [h]
  clear h
  refine wpS_loopS (ι := Nat) (fun i => [(1, .ptr 0 0 0), (3, .int .i64 E), (5, .int .i64 i)]) (fun _ => ⟨[(0, .cells x.av)], 1⟩) (fun i => x.names.length - i) (fun i => i ≤ x.names.length) 0 (Nat.zero_le _) (Sim.of_le (Env.le_of (by simp)) (Mem.le_of rfl (by simp [Img.av]))) ?_
  intro i hi
  have hw : IntKind.i64.wrap (i + 1) = i + 1 := wrap64 (by omega) (by omega)
  simp [Img.av]
  refine br_cond rfl (fun h => ?_) (fun h => ?_)
  · have hlt : i < x.names.length := by have := ltI_t.1 h; omega
    obtain ⟨hd1, hd2, hd3, hd4⟩ := hx.nname i hlt
    simp [h, idxM, DDef.av]
    refine xdcall_p rfl (call61 _ hd1) rfl ?_
    simp [hd2, h, idxM, DDef.av]
    refine xdcall_p rfl (call62 (ix x.names i).at_ x.base E) rfl ?_
    rw [hE] at hd3
    rcases Nat.eq_zero_or_pos i with hi0 | hi0
    · subst hi0
      have hz0 : (x.names.map DDef.av)[0]? = some (ix x.names 0).av := idxM h
      simp [hd3, hd4, h00, hw1, hz0, DDef.av]
      exact ⟨1, by omega, by omega, Sim.of_le (Env.le_of (by simp)) (Mem.le_of rfl (by simp))⟩
    · have h0 : ltI 0 ↑i = true := ltI_t.2 (by omega)
      have hwm : IntKind.i64.wrap (i - 1) = ((i - 1 : Nat) : Int) := by rw [wrap64 (by omega) (by omega)]; omega
      have hj : ltI ↑(i - 1) ↑x.names.length = true := ltN (by omega)
      have hls := hx.nless (i - 1) (by omega)
      rw [Nat.sub_add_cancel hi0] at hls
      simp [hd3, hd4, h0, hwm, hj, idxM, DDef.av, h, hls]
      simp [hw]
      exact ⟨i + 1, by omega, by omega, Sim.of_le (Env.le_of (by simp)) (Mem.le_of rfl (by simp))⟩
  simp [h]
  clear h
  refine wpS_loopS (ι := Nat) (fun i => [(1, .ptr 0 0 0), (3, .int .i64 E), (6, .int .i64 i)]) (fun _ => ⟨[(0, .cells x.av)], 1⟩) (fun i => x.lines.length - i) (fun i => i ≤ x.lines.length) 0 (Nat.zero_le _) (Sim.of_le (Env.le_of (by simp)) (Mem.le_of rfl (by simp [Img.av]))) ?_
  intro i hi
  have hw : IntKind.i64.wrap (i + 1) = i + 1 := wrap64 (by omega) (by omega)
  simp [Img.av]
  refine br_cond rfl (fun h => ?_) (fun h => ?_)
  · have hlt : i < x.lines.length := by have := ltI_t.1 h; omega
    have hd3 := hx.line i hlt
    simp [h, idxM, DLine.av]
    refine xdcall_p rfl (call62 (ix x.lines i).at_ x.base E) rfl ?_
    rw [hE] at hd3
    rcases Nat.eq_zero_or_pos i with hi0 | hi0
    · subst hi0
      have hz0 : (x.lines.map DLine.av)[0]? = some (ix x.lines 0).av := idxM h
      simp [hd3, h00, hw1, hz0, DLine.av]
      exact ⟨1, by omega, by omega, Sim.of_le (Env.le_of (by simp)) (Mem.le_of rfl (by simp))⟩
    · have h0 : ltI 0 ↑i = true := ltI_t.2 (by omega)
      have hwm : IntKind.i64.wrap (i - 1) = ((i - 1 : Nat) : Int) := by rw [wrap64 (by omega) (by omega)]; omega
      have hj : ltI ↑(i - 1) ↑x.lines.length = true := ltN (by omega)
      have hls := hx.lless (i - 1) (by omega)
      rw [Nat.sub_add_cancel hi0] at hls
      simp [hd3, h0, hwm, hj, idxM, DLine.av, h, hls]
      simp [hw]
      exact ⟨i + 1, by omega, by omega, Sim.of_le (Env.le_of (by simp)) (Mem.le_of rfl (by simp))⟩
  simp [h, cr31]
end Go.Pm
