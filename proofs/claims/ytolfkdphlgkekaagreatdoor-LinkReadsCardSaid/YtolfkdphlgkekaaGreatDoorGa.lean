/- ZkA: the program of the linker's texts and loader; what is known of its variables. -/
import Derived.Test.YtolfkdphlgkekaaGreatDoorProg
import Derived.KernelRfl
import Derived.Lib.LaidTab
import Derived.Lib.ItoaNum
import Derived.Test.YtolfkdphlgkekaaGreatDoorPmR
import Derived.Shelf.Small.Strs
import Derived.Shelf.Strings.Cut
import Derived.Shelf.Strings.Split
import Derived.Shelf.Strings.Prefix
import Derived.Shelf.Strconv.Itoa3
import Derived.Shelf.Strconv.AtoiAll
namespace Go.Pm
open Go Go.Proofs
/-- Functions that write into what they are handed; behind them, with a million more, those that may panic where an order is open. -/
def Zk.imp : List Go.FuncId := [71, 72, 73, 113, 114, 60, 28, 42, 44, 46, 59, 1000025, 1000026]

theorem pow10_at : Tryz.prog.globalNamed "internal/strconv.uint64pow10" = some 3 := by kernel_rfl

/-- The longest text that the fast search takes; the two errors; the powers of ten. -/
def Zk.ok (w : World) : Prop :=
  (∃ m, w.cell? ⟨0, 0, none⟩ = some (.int .i64 m)) ∧ (∃ ev, w.cell? ⟨1, 0, none⟩ = some ev ∧ (ev = .nilIface ∨ ∃ te pe, ev = .iface te pe)) ∧ (∃ ev, w.cell? ⟨2, 0, none⟩ = some ev ∧ (ev = .nilIface ∨ ∃ te pe, ev = .iface te pe)) ∧
  Lib.TabIs Tryz.prog w "internal/strconv.uint64pow10" .u64 Lib.pow10Tab

theorem Zk.stable (w w' : World) (h : Zk.ok w) (hb : ∀ b, b < 8 → w'.heap[b]? = w.heap[b]?) : Zk.ok w' := by
  have hc : ∀ b, b < 8 → w'.cell? ⟨b, 0, none⟩ = w.cell? ⟨b, 0, none⟩ := fun b h => cell?_congr (a := ⟨b, 0, none⟩) (hb b h)
  obtain ⟨h1, h2, h3, h4⟩ := h
  refine ⟨by rw [hc 0 (by omega)]; exact h1, by rw [hc 1 (by omega)]; exact h2, by rw [hc 2 (by omega)]; exact h3, ?_⟩
  unfold Lib.TabIs World.var? at h4 ⊢
  rw [pow10_at] at h4 ⊢
  simp only [Option.bind_some] at h4 ⊢
  rw [hb 3 (by omega)]
  exact h4

noncomputable def Zk.pg : Prg := { toProgram := Tryz.prog, ok := Zk.ok, blocks := fun b => b < 8, stable := Zk.stable }
end Go.Pm

/- ZkW1: the shelf's contracts at this dump (written by the kit's lay-shelf.mjs and lay-plain.mjs; picked by pickshelf.py). -/
namespace Go.Proofs
open Go.Shelf

def Tryz.lays137_ren : Go.Shelf.Ren := ⟨fun | 137 => 77 | 217 => 120 | 266 => 152 | n => n, fun | 9 => 9 | 5 => 5 | 3 => 3 | n => n, fun | n => n⟩

theorem Tryz.lays137 : Go.Proofs.Lays.n137 Tryz.prog Tryz.lays137_ren := {
  mixed := by kernel_rfl
  f137 := Tryz.func77.trans (congrArg some (by kernel_rfl))
  f217 := Tryz.func120.trans (congrArg some (by kernel_rfl))
  f266 := Tryz.func152.trans (congrArg some (by kernel_rfl))
  t3 := Tryz.underlying3
  a3 := Tryz.isAgg3
  z3 := Tryz.sizeOf3
  v3 := Tryz.zeroValue3
  t5 := Tryz.underlying5
  a5 := Tryz.isAgg5
  z5 := Tryz.sizeOf5
  v5 := Tryz.zeroValue5
  t9 := Tryz.underlying9
  a9 := Tryz.isAgg9
  z9 := Tryz.sizeOf9
  v9 := Tryz.zeroValue9 }

open Go.RowKit in
theorem Tryz.strings_IndexByte (s : ByteArray) (c : Int) (w : World) :
    Calls Tryz.prog 77 #[.string s, .int .u8 c] w fun e w' => e = .returned (.int .i64 (Lib.indexByte s.data.toList c.toNat.toUInt8)) ∧ w' = w := Any.strings_IndexByte Tryz.lays137 s c w

def Tryz.laysM171_ren : Go.Shelf.Ren := ⟨fun | 171 => 63 | 243 => 111 | 246 => 141 | 283 => 175 | 284 => 176 | 285 => 177 | 286 => 178 | 129 => 173 | 317 => 212 | 318 => 213 | 319 => 214 | 320 => 215 | 337 => 227 | 338 => 228 | n => n, fun | 3 => 3 | 9 => 9 | 2 => 2 | 4 => 4 | 171 => 242 | 0 => 0 | 53 => 226 | 37 => 124 | 5 => 5 | 173 => 244 | 212 => 272 | 51 => 193 | 20 => 20 | 213 => 273 | 46 => 153 | 232 => 292 | 233 => 293 | n => n, fun | 17 => 3 | 18 => 6 | 19 => 7 | n => n⟩

theorem Tryz.laysM171 : Go.Proofs.LaysM.n171 Tryz.prog Tryz.laysM171_ren := {
  mixed := by kernel_rfl
  f129 := Tryz.func173.trans (congrArg some (by kernel_rfl))
  f171 := Tryz.func63.trans (congrArg some (by kernel_rfl))
  f243 := Tryz.func111.trans (congrArg some (by kernel_rfl))
  f246 := Tryz.func141.trans (congrArg some (by kernel_rfl))
  f283 := Tryz.func175.trans (congrArg some (by kernel_rfl))
  f284 := Tryz.func176.trans (congrArg some (by kernel_rfl))
  f285 := Tryz.func177.trans (congrArg some (by kernel_rfl))
  f286 := Tryz.func178.trans (congrArg some (by kernel_rfl))
  f317 := Tryz.func212.trans (congrArg some (by kernel_rfl))
  f318 := Tryz.func213.trans (congrArg some (by kernel_rfl))
  f319 := Tryz.func214.trans (congrArg some (by kernel_rfl))
  f320 := Tryz.func215.trans (congrArg some (by kernel_rfl))
  f337 := Tryz.func227.trans (congrArg some (by kernel_rfl))
  f338 := Tryz.func228.trans (congrArg some (by kernel_rfl))
  t0 := Tryz.underlying0
  a0 := Tryz.isAgg0
  z0 := Tryz.sizeOf0
  v0 := Tryz.zeroValue0
  t2 := Tryz.underlying2
  a2 := Tryz.isAgg2
  z2 := Tryz.sizeOf2
  v2 := Tryz.zeroValue2
  t3 := Tryz.underlying3
  a3 := Tryz.isAgg3
  z3 := Tryz.sizeOf3
  v3 := Tryz.zeroValue3
  t4 := Tryz.underlying4
  a4 := Tryz.isAgg4
  z4 := Tryz.sizeOf4
  v4 := Tryz.zeroValue4
  t5 := Tryz.underlying5
  a5 := Tryz.isAgg5
  z5 := Tryz.sizeOf5
  v5 := Tryz.zeroValue5
  t9 := Tryz.underlying9
  a9 := Tryz.isAgg9
  z9 := Tryz.sizeOf9
  v9 := Tryz.zeroValue9
  t20 := Tryz.underlying20
  a20 := Tryz.isAgg20
  z20 := Tryz.sizeOf20
  v20 := Tryz.zeroValue20
  t37 := Tryz.underlying124
  a37 := Tryz.isAgg124
  z37 := Tryz.sizeOf124
  v37 := Tryz.zeroValue124
  t46 := Tryz.underlying153
  a46 := Tryz.isAgg153
  z46 := Tryz.sizeOf153
  v46 := Tryz.zeroValue153
  t51 := Tryz.underlying193
  a51 := Tryz.isAgg193
  z51 := Tryz.sizeOf193
  v51 := Tryz.zeroValue193
  t53 := Tryz.underlying226
  a53 := Tryz.isAgg226
  z53 := Tryz.sizeOf226
  v53 := Tryz.zeroValue226
  t171 := Tryz.underlying242
  a171 := Tryz.isAgg242
  z171 := Tryz.sizeOf242
  v171 := Tryz.zeroValue242
  t173 := Tryz.underlying244
  a173 := Tryz.isAgg244
  z173 := Tryz.sizeOf244
  v173 := Tryz.zeroValue244
  t212 := Tryz.underlying272
  a212 := Tryz.isAgg272
  z212 := Tryz.sizeOf272
  v212 := Tryz.zeroValue272
  t213 := Tryz.underlying273
  a213 := Tryz.isAgg273
  z213 := Tryz.sizeOf273
  t232 := Tryz.underlying292
  a232 := Tryz.isAgg292
  z232 := Tryz.sizeOf292
  v232 := Tryz.zeroValue292
  t233 := Tryz.underlying293
  a233 := Tryz.isAgg293
  z233 := Tryz.sizeOf293
  v233 := Tryz.zeroValue293
  g17 := by kernel_rfl
  g18 := by kernel_rfl
  g19 := by kernel_rfl
  i0 := by kernel_rfl
  i2 := by kernel_rfl
  i3 := by kernel_rfl
  i4 := by kernel_rfl
  i5 := by kernel_rfl
  i9 := by kernel_rfl
  i20 := by kernel_rfl
  i37 := by kernel_rfl
  i46 := by kernel_rfl
  i51 := by kernel_rfl
  i53 := by kernel_rfl
  i171 := by kernel_rfl
  i173 := by kernel_rfl
  i212 := by kernel_rfl
  i232 := by kernel_rfl
  i233 := by kernel_rfl
  m17 := by kernel_rfl
  m18 := by kernel_rfl
  m19 := by kernel_rfl }

open Go.RowKit Go.Sort Go.Lib in
theorem Tryz.strconv_Itoa (n : Int) (h0 : -9223372036854775808 ≤ n) (h1 : n ≤ 9223372036854775807) (w : World) (htab : Lib.TabIs Tryz.prog w "internal/strconv.uint64pow10" .u64 Lib.pow10Tab) :
    Calls Tryz.prog 63 #[.int .i64 n] w fun e w' => e = .returned (.string ⟨(Lib.itoa n).toArray⟩) ∧ ∃ k os, w' = grow (w.drewN k) os := Any.strconv_Itoa Tryz.laysM171 n h0 h1 w htab

def Tryz.laysC172_ren : Go.Shelf.Ren := ⟨fun | 172 => 78 | 244 => 121 | 245 => 122 | 247 => 153 | 279 => 154 | 280 => 155 | 281 => 156 | 282 => 157 | 287 => 195 | 316 => 196 | 171 => 63 | 205 => 197 | 321 => 221 | 322 => 222 | 243 => 111 | 246 => 141 | 283 => 175 | 284 => 176 | 285 => 177 | 286 => 178 | 129 => 173 | 317 => 212 | 318 => 213 | 319 => 214 | 320 => 215 | 337 => 227 | 338 => 228 | n => n, fun | 9 => 9 | 3 => 3 | 75 => 128 | 76 => 129 | 4 => 4 | 5 => 5 | 167 => 218 | 37 => 124 | 0 => 0 | 85 => 219 | 2 => 2 | 168 => 221 | 53 => 226 | 175 => 255 | 46 => 153 | 210 => 258 | 127 => 188 | 145 => 280 | 143 => 278 | 21 => 21 | 171 => 242 | 173 => 244 | 212 => 272 | 51 => 193 | 20 => 20 | 213 => 273 | 232 => 292 | 233 => 293 | 80 => 136 | n => n, fun | 15 => 1 | 16 => 2 | 17 => 3 | 18 => 6 | 19 => 7 | n => n⟩

theorem Tryz.laysC172 : Go.Proofs.LaysC.n172 Tryz.prog Tryz.laysC172_ren := {
  mixed := by kernel_rfl
  f129 := Tryz.func173.trans (congrArg some (by kernel_rfl))
  f171 := Tryz.func63.trans (congrArg some (by kernel_rfl))
  f172 := Tryz.func78.trans (congrArg some (by kernel_rfl))
  f205 := Tryz.func197.trans (congrArg some (by kernel_rfl))
  f243 := Tryz.func111.trans (congrArg some (by kernel_rfl))
  f244 := Tryz.func121.trans (congrArg some (by kernel_rfl))
  f245 := Tryz.func122.trans (congrArg some (by kernel_rfl))
  f246 := Tryz.func141.trans (congrArg some (by kernel_rfl))
  f247 := Tryz.func153.trans (congrArg some (by kernel_rfl))
  f279 := Tryz.func154.trans (congrArg some (by kernel_rfl))
  f280 := Tryz.func155.trans (congrArg some (by kernel_rfl))
  f281 := Tryz.func156.trans (congrArg some (by kernel_rfl))
  f282 := Tryz.func157.trans (congrArg some (by kernel_rfl))
  f283 := Tryz.func175.trans (congrArg some (by kernel_rfl))
  f284 := Tryz.func176.trans (congrArg some (by kernel_rfl))
  f285 := Tryz.func177.trans (congrArg some (by kernel_rfl))
  f286 := Tryz.func178.trans (congrArg some (by kernel_rfl))
  f287 := Tryz.func195.trans (congrArg some (by kernel_rfl))
  f316 := Tryz.func196.trans (congrArg some (by kernel_rfl))
  f317 := Tryz.func212.trans (congrArg some (by kernel_rfl))
  f318 := Tryz.func213.trans (congrArg some (by kernel_rfl))
  f319 := Tryz.func214.trans (congrArg some (by kernel_rfl))
  f320 := Tryz.func215.trans (congrArg some (by kernel_rfl))
  f321 := Tryz.func221.trans (congrArg some (by kernel_rfl))
  f322 := Tryz.func222.trans (congrArg some (by kernel_rfl))
  f337 := Tryz.func227.trans (congrArg some (by kernel_rfl))
  f338 := Tryz.func228.trans (congrArg some (by kernel_rfl))
  t0 := Tryz.underlying0
  a0 := Tryz.isAgg0
  z0 := Tryz.sizeOf0
  v0 := Tryz.zeroValue0
  t2 := Tryz.underlying2
  a2 := Tryz.isAgg2
  z2 := Tryz.sizeOf2
  v2 := Tryz.zeroValue2
  t3 := Tryz.underlying3
  a3 := Tryz.isAgg3
  z3 := Tryz.sizeOf3
  v3 := Tryz.zeroValue3
  t4 := Tryz.underlying4
  a4 := Tryz.isAgg4
  z4 := Tryz.sizeOf4
  v4 := Tryz.zeroValue4
  t5 := Tryz.underlying5
  a5 := Tryz.isAgg5
  z5 := Tryz.sizeOf5
  v5 := Tryz.zeroValue5
  t9 := Tryz.underlying9
  a9 := Tryz.isAgg9
  z9 := Tryz.sizeOf9
  v9 := Tryz.zeroValue9
  t20 := Tryz.underlying20
  a20 := Tryz.isAgg20
  z20 := Tryz.sizeOf20
  v20 := Tryz.zeroValue20
  t21 := Tryz.underlying21
  a21 := Tryz.isAgg21
  z21 := Tryz.sizeOf21
  v21 := Tryz.zeroValue21
  t37 := Tryz.underlying124
  a37 := Tryz.isAgg124
  z37 := Tryz.sizeOf124
  v37 := Tryz.zeroValue124
  t46 := Tryz.underlying153
  a46 := Tryz.isAgg153
  z46 := Tryz.sizeOf153
  v46 := Tryz.zeroValue153
  t51 := Tryz.underlying193
  a51 := Tryz.isAgg193
  z51 := Tryz.sizeOf193
  v51 := Tryz.zeroValue193
  t53 := Tryz.underlying226
  a53 := Tryz.isAgg226
  z53 := Tryz.sizeOf226
  v53 := Tryz.zeroValue226
  t75 := Tryz.underlying128
  a75 := Tryz.isAgg128
  z75 := Tryz.sizeOf128
  v75 := Tryz.zeroValue128
  t76 := Tryz.underlying129
  a76 := Tryz.isAgg129
  z76 := Tryz.sizeOf129
  v76 := Tryz.zeroValue129
  t85 := Tryz.underlying219
  a85 := Tryz.isAgg219
  z85 := Tryz.sizeOf219
  v85 := Tryz.zeroValue219
  t127 := Tryz.underlying188
  a127 := Tryz.isAgg188
  z127 := Tryz.sizeOf188
  v127 := Tryz.zeroValue188
  t143 := Tryz.underlying278
  a143 := Tryz.isAgg278
  z143 := Tryz.sizeOf278
  v143 := Tryz.zeroValue278
  t145 := Tryz.underlying280
  a145 := Tryz.isAgg280
  z145 := Tryz.sizeOf280
  v145 := Tryz.zeroValue280
  t167 := Tryz.underlying218
  a167 := Tryz.isAgg218
  z167 := Tryz.sizeOf218
  v167 := Tryz.zeroValue218
  t168 := Tryz.underlying221
  a168 := Tryz.isAgg221
  z168 := Tryz.sizeOf221
  v168 := Tryz.zeroValue221
  t171 := Tryz.underlying242
  a171 := Tryz.isAgg242
  z171 := Tryz.sizeOf242
  v171 := Tryz.zeroValue242
  t173 := Tryz.underlying244
  a173 := Tryz.isAgg244
  z173 := Tryz.sizeOf244
  v173 := Tryz.zeroValue244
  t175 := Tryz.underlying255
  a175 := Tryz.isAgg255
  z175 := Tryz.sizeOf255
  v175 := Tryz.zeroValue255
  t210 := Tryz.underlying258
  a210 := Tryz.isAgg258
  z210 := Tryz.sizeOf258
  v210 := Tryz.zeroValue258
  t212 := Tryz.underlying272
  a212 := Tryz.isAgg272
  z212 := Tryz.sizeOf272
  v212 := Tryz.zeroValue272
  t213 := Tryz.underlying273
  a213 := Tryz.isAgg273
  z213 := Tryz.sizeOf273
  t232 := Tryz.underlying292
  a232 := Tryz.isAgg292
  z232 := Tryz.sizeOf292
  v232 := Tryz.zeroValue292
  t233 := Tryz.underlying293
  a233 := Tryz.isAgg293
  z233 := Tryz.sizeOf293
  v233 := Tryz.zeroValue293
  g15 := by kernel_rfl
  g16 := by kernel_rfl
  g17 := by kernel_rfl
  g18 := by kernel_rfl
  g19 := by kernel_rfl
  t80 := Tryz.underlying136
  a80 := Tryz.isAgg136
  z80 := Tryz.sizeOf136
  v80 := Tryz.zeroValue136
  i0 := by kernel_rfl
  i2 := by kernel_rfl
  i3 := by kernel_rfl
  i4 := by kernel_rfl
  i5 := by kernel_rfl
  i9 := by kernel_rfl
  i20 := by kernel_rfl
  i21 := by kernel_rfl
  i37 := by kernel_rfl
  i46 := by kernel_rfl
  i51 := by kernel_rfl
  i53 := by kernel_rfl
  i75 := by kernel_rfl
  i76 := by kernel_rfl
  i80 := by kernel_rfl
  i85 := by kernel_rfl
  i127 := by kernel_rfl
  i143 := by kernel_rfl
  i145 := by kernel_rfl
  i167 := by kernel_rfl
  i168 := by kernel_rfl
  i171 := by kernel_rfl
  i173 := by kernel_rfl
  i175 := by kernel_rfl
  i210 := by kernel_rfl
  i212 := by kernel_rfl
  i232 := by kernel_rfl
  i233 := by kernel_rfl
  m15 := by kernel_rfl
  m16 := by kernel_rfl
  m17 := by kernel_rfl
  m18 := by kernel_rfl
  m19 := by kernel_rfl
  c0 := by kernel_rfl
  c2 := by kernel_rfl
  c3 := by kernel_rfl
  c4 := by kernel_rfl
  c5 := by kernel_rfl
  c9 := by kernel_rfl
  c20 := by kernel_rfl
  c21 := by kernel_rfl
  c37 := by kernel_rfl
  c46 := by kernel_rfl
  c51 := by kernel_rfl
  c53 := by kernel_rfl
  c75 := by kernel_rfl
  c76 := by kernel_rfl
  c80 := by kernel_rfl
  c85 := by kernel_rfl
  c127 := by kernel_rfl
  c143 := by kernel_rfl
  c145 := by kernel_rfl
  c167 := by kernel_rfl
  c168 := by kernel_rfl
  c171 := by kernel_rfl
  c173 := by kernel_rfl
  c175 := by kernel_rfl
  c210 := by kernel_rfl
  c212 := by kernel_rfl
  c213 := by kernel_rfl
  c232 := by kernel_rfl
  c233 := by kernel_rfl }

open Go.RowKit in
theorem Tryz.strconv_Atoi_ok (s : ByteArray) (hmax : s.size ≤ 9223372036854775806) (v : Int) (h : Lib.atoiAll s.data.toList = .ok v) (w : World) :
    Calls Tryz.prog 78 #[.string s] w fun e w' => e = .returned (.tuple #[.int .i64 v, .nilIface]) ∧ (w' = w ∨ ∃ t, w' = Lib.bytesWorld w 5 t) := Any.strconv_Atoi_ok Tryz.laysC172 s hmax v h w

open Go.RowKit in
theorem Tryz.strconv_Atoi_syntax (s : ByteArray) (hlim : s.size ≤ 281474976710656) (h : Lib.atoiAll s.data.toList = Lib.atoiAll []) (ev : Value) (w : World) (hv : w.cell? ⟨1, 0, none⟩ = some ev) (hev : ev = .nilIface ∨ ∃ te pe, ev = .iface te pe) :
    Calls Tryz.prog 78 #[.string s] w fun e w' => ∃ N, e = .returned (.tuple #[.int .i64 (0), .iface 221 (.pointer (some ⟨N, 0, none⟩))]) ∧ w.heap.size ≤ N ∧ w'.heap[N]? = some (.cells #[.string ⟨#[65, 116, 111, 105]⟩, .string s, ev] 258 (0, 0)) ∧ Below w.heap.size w w' := Any.strconv_Atoi_syntax Tryz.laysC172 s hlim h ev w hv hev

open Go.RowKit in
theorem Tryz.strconv_Atoi_range (s : ByteArray) (hlim : s.size ≤ 281474976710656) (h : Lib.atoiAll s.data.toList = .range) (ev : Value) (w : World) (hv : w.cell? ⟨2, 0, none⟩ = some ev) (hev : ev = .nilIface ∨ ∃ te pe, ev = .iface te pe) :
    Calls Tryz.prog 78 #[.string s] w fun e w' => ∃ N, e = .returned (.tuple #[.int .i64 (Lib.atoiSat s.data.toList), .iface 221 (.pointer (some ⟨N, 0, none⟩))]) ∧ w.heap.size ≤ N ∧ w'.heap[N]? = some (.cells #[.string ⟨#[65, 116, 111, 105]⟩, .string s, ev] 258 (0, 0)) ∧ Below w.heap.size w w' := Any.strconv_Atoi_range Tryz.laysC172 s hlim h ev w hv hev

def Tryz.lays145_ren : Go.Shelf.Ren := ⟨fun | 145 => 75 | 220 => 118 | 219 => 148 | 217 => 120 | 225 => 189 | 224 => 190 | 267 => 191 | 266 => 152 | 314 => 219 | n => n, fun | 9 => 9 | 4 => 4 | 59 => 149 | 3 => 3 | 5 => 5 | 46 => 153 | 146 => 224 | 51 => 193 | n => n, fun | 1 => 0 | n => n⟩

theorem Tryz.lays145 : Go.Proofs.Lays.n145 Tryz.prog Tryz.lays145_ren := {
  mixed := by kernel_rfl
  f145 := Tryz.func75.trans (congrArg some (by kernel_rfl))
  f217 := Tryz.func120.trans (congrArg some (by kernel_rfl))
  f219 := Tryz.func148.trans (congrArg some (by kernel_rfl))
  f220 := Tryz.func118.trans (congrArg some (by kernel_rfl))
  f224 := Tryz.func190.trans (congrArg some (by kernel_rfl))
  f225 := Tryz.func189.trans (congrArg some (by kernel_rfl))
  f266 := Tryz.func152.trans (congrArg some (by kernel_rfl))
  f267 := Tryz.func191.trans (congrArg some (by kernel_rfl))
  f314 := Tryz.func219.trans (congrArg some (by kernel_rfl))
  t3 := Tryz.underlying3
  a3 := Tryz.isAgg3
  z3 := Tryz.sizeOf3
  v3 := Tryz.zeroValue3
  t4 := Tryz.underlying4
  a4 := Tryz.isAgg4
  z4 := Tryz.sizeOf4
  v4 := Tryz.zeroValue4
  t5 := Tryz.underlying5
  a5 := Tryz.isAgg5
  z5 := Tryz.sizeOf5
  v5 := Tryz.zeroValue5
  t9 := Tryz.underlying9
  a9 := Tryz.isAgg9
  z9 := Tryz.sizeOf9
  v9 := Tryz.zeroValue9
  t46 := Tryz.underlying153
  a46 := Tryz.isAgg153
  z46 := Tryz.sizeOf153
  v46 := Tryz.zeroValue153
  t51 := Tryz.underlying193
  a51 := Tryz.isAgg193
  z51 := Tryz.sizeOf193
  v51 := Tryz.zeroValue193
  t59 := Tryz.underlying149
  a59 := Tryz.isAgg149
  z59 := Tryz.sizeOf149
  v59 := Tryz.zeroValue149
  t146 := Tryz.underlying224
  a146 := Tryz.isAgg224
  z146 := Tryz.sizeOf224
  v146 := Tryz.zeroValue224
  g1 := by kernel_rfl }

open Go.RowKit Go.Lib in
theorem Tryz.strings_Cut (s sep : ByteArray) (m : Int) (w : World) (hs : s.size < 4294967281) (hm : w.cell? ⟨0, 0, none⟩ = some (.int .i64 m)) :
    Calls Tryz.prog 75 #[.string s, .string sep] w fun e w' => e = .returned (.tuple #[.string ⟨(Lib.cut s.data.toList sep.data.toList).1.toArray⟩, .string ⟨(Lib.cut s.data.toList sep.data.toList).2.1.toArray⟩, .bool (Lib.cut s.data.toList sep.data.toList).2.2]) ∧ ∃ n, w' = w.drewN n := Any.strings_Cut Tryz.lays145 s sep m w hs hm

def Tryz.lays101_ren : Go.Shelf.Ren := ⟨fun | 101 => 79 | 208 => 123 | 206 => 158 | n => n, fun | 9 => 9 | 4 => 4 | 3 => 3 | n => n, fun | n => n⟩

theorem Tryz.lays101 : Go.Proofs.Lays.n101 Tryz.prog Tryz.lays101_ren := {
  mixed := by kernel_rfl
  f101 := Tryz.func79.trans (congrArg some (by kernel_rfl))
  f206 := Tryz.func158.trans (congrArg some (by kernel_rfl))
  f208 := Tryz.func123.trans (congrArg some (by kernel_rfl))
  t3 := Tryz.underlying3
  a3 := Tryz.isAgg3
  z3 := Tryz.sizeOf3
  v3 := Tryz.zeroValue3
  t4 := Tryz.underlying4
  a4 := Tryz.isAgg4
  z4 := Tryz.sizeOf4
  v4 := Tryz.zeroValue4
  t9 := Tryz.underlying9
  a9 := Tryz.isAgg9
  z9 := Tryz.sizeOf9
  v9 := Tryz.zeroValue9 }

open Go.RowKit Go.Lib in
theorem Tryz.strings_TrimPrefix (s p : ByteArray) (w : World) :
    Calls Tryz.prog 79 #[.string s, .string p] w fun e w' => e = .returned (.string ⟨(Lib.trimPrefix s.data.toList p.data.toList).toArray⟩) ∧ w' = w := Any.strings_TrimPrefix Tryz.lays101 s p w

def Tryz.lays146_ren : Go.Shelf.Ren := ⟨fun | 146 => 76 | 221 => 119 | 268 => 149 | 138 => 150 | 143 => 151 | 195 => 192 | 197 => 193 | 218 => 194 | 219 => 148 | 260 => 220 | 217 => 120 | 225 => 189 | 224 => 190 | 267 => 191 | 266 => 152 | 314 => 219 | n => n, fun | 9 => 9 | 31 => 68 | 3 => 3 | 4 => 4 | 0 => 0 | 105 => 253 | 21 => 21 | 5 => 5 | 46 => 153 | 119 => 287 | 139 => 290 | 138 => 289 | 146 => 224 | 51 => 193 | n => n, fun | 1 => 0 | 3 => 4 | 4 => 5 | n => n⟩

theorem Tryz.lays146 : Go.Proofs.Lays.n146 Tryz.prog Tryz.lays146_ren := {
  mixed := by kernel_rfl
  f138 := Tryz.func150.trans (congrArg some (by kernel_rfl))
  f143 := Tryz.func151.trans (congrArg some (by kernel_rfl))
  f146 := Tryz.func76.trans (congrArg some (by kernel_rfl))
  f195 := Tryz.func192.trans (congrArg some (by kernel_rfl))
  f197 := Tryz.func193.trans (congrArg some (by kernel_rfl))
  f217 := Tryz.func120.trans (congrArg some (by kernel_rfl))
  f218 := Tryz.func194.trans (congrArg some (by kernel_rfl))
  f219 := Tryz.func148.trans (congrArg some (by kernel_rfl))
  f221 := Tryz.func119.trans (congrArg some (by kernel_rfl))
  f224 := Tryz.func190.trans (congrArg some (by kernel_rfl))
  f225 := Tryz.func189.trans (congrArg some (by kernel_rfl))
  f260 := Tryz.func220.trans (congrArg some (by kernel_rfl))
  f266 := Tryz.func152.trans (congrArg some (by kernel_rfl))
  f267 := Tryz.func191.trans (congrArg some (by kernel_rfl))
  f268 := Tryz.func149.trans (congrArg some (by kernel_rfl))
  f314 := Tryz.func219.trans (congrArg some (by kernel_rfl))
  t0 := Tryz.underlying0
  a0 := Tryz.isAgg0
  z0 := Tryz.sizeOf0
  v0 := Tryz.zeroValue0
  t3 := Tryz.underlying3
  a3 := Tryz.isAgg3
  z3 := Tryz.sizeOf3
  v3 := Tryz.zeroValue3
  t4 := Tryz.underlying4
  a4 := Tryz.isAgg4
  z4 := Tryz.sizeOf4
  v4 := Tryz.zeroValue4
  t5 := Tryz.underlying5
  a5 := Tryz.isAgg5
  z5 := Tryz.sizeOf5
  v5 := Tryz.zeroValue5
  t9 := Tryz.underlying9
  a9 := Tryz.isAgg9
  z9 := Tryz.sizeOf9
  v9 := Tryz.zeroValue9
  t21 := Tryz.underlying21
  a21 := Tryz.isAgg21
  z21 := Tryz.sizeOf21
  v21 := Tryz.zeroValue21
  t31 := Tryz.underlying68
  a31 := Tryz.isAgg68
  z31 := Tryz.sizeOf68
  v31 := Tryz.zeroValue68
  t46 := Tryz.underlying153
  a46 := Tryz.isAgg153
  z46 := Tryz.sizeOf153
  v46 := Tryz.zeroValue153
  t51 := Tryz.underlying193
  a51 := Tryz.isAgg193
  z51 := Tryz.sizeOf193
  v51 := Tryz.zeroValue193
  t105 := Tryz.underlying253
  a105 := Tryz.isAgg253
  z105 := Tryz.sizeOf253
  v105 := Tryz.zeroValue253
  t119 := Tryz.underlying287
  a119 := Tryz.isAgg287
  z119 := Tryz.sizeOf287
  t138 := Tryz.underlying289
  a138 := Tryz.isAgg289
  z138 := Tryz.sizeOf289
  v138 := Tryz.zeroValue289
  t139 := Tryz.underlying290
  a139 := Tryz.isAgg290
  z139 := Tryz.sizeOf290
  v139 := Tryz.zeroValue290
  t146 := Tryz.underlying224
  a146 := Tryz.isAgg224
  z146 := Tryz.sizeOf224
  v146 := Tryz.zeroValue224
  g1 := by kernel_rfl
  g3 := by kernel_rfl
  g4 := by kernel_rfl }

open Go.RowKit Go.Lib in
theorem Tryz.strings_Split (s sep : ByteArray) (m : Int) (w : World) (hs : s.size < 4294967281) (hm : w.cell? ⟨0, 0, none⟩ = some (.int .i64 m)) (h1 : 1 ≤ sep.size) :
    Calls Tryz.prog 76 #[.string s, .string sep] w fun e w' =>
      e = .returned (.slice (some ⟨w.heap.size, 0, none⟩) (Lib.countB s sep + 1) (Lib.countB s sep + 1)) ∧ w' = w.alloc (.cells ((Lib.splitB sep 0 (Lib.countB s sep) s).map Value.string).toArray 9) := Any.strings_Split Tryz.lays146 (by kernel_rfl) s sep m w hs hm h1

end Go.Proofs

/- ZkW2: contracts: the library's functions on texts and numbers. -/
namespace Go.Pm
open Go Go.Proofs

/-- A call by what the kit's contract says. -/
theorem pcalls_of {P : Prg} {f : FuncId} {xs : List AV} {v : AV} (hf : ∃ fn, P.funcs[f]? = some fn ∧ fn.body.isSome = true ∧ (fn.name == "runtime.NumGoroutine") = false) (hv : v.perm = true)
    (h : ∀ (K : Bool → Nat → Prop) (w : World) (vals : List Value), VRs [] K w xs vals → P.lies w → Calls P f vals.toArray w fun e w' => ∃ u, e = .returned u ∧ w.grownBy w' none ∧ VR [] (fun p b => K p b ∨ w.heap.size ≤ b ∧ b < w'.heap.size) w' v u) : PCalls P f xs fun out => out = .ret v :=
  ⟨hf, fun K w vals _ hx hl => (h K w vals hx hl).mono fun _ w' ⟨u, he, hg, hV⟩ => ⟨fun p b => K p b ∨ w.heap.size ≤ b ∧ b < w'.heap.size, .ret v, rfl, hv, hg, fun _ _ h => .inl h, fun _ _ h => h, u, he, hV⟩⟩

theorem grown_drewN (w : World) (n : Nat) : w.grownBy (w.drewN n) none := ⟨rfl, rfl, rfl, Nat.le_refl _, fun _ _ _ => rfl⟩
theorem grown_bytes (w : World) (e : TypeId) (s : ByteArray) : w.grownBy (Lib.bytesWorld w e s) none := ⟨rfl, rfl, rfl, by simp [Lib.bytesWorld, World.freeze, World.alloc, World.drew, -World.alloc_eq, -World.drew_eq], fun k hk _ => Lib.bytesWorld_at_old w e s k hk⟩
theorem grown_grow (w : World) (n : Nat) (os : Array Obj) : w.grownBy (Sort.grow (w.drewN n) os) none := ⟨rfl, rfl, rfl, by simp [Sort.grow, World.drewN], fun k hk _ => by simp [Sort.grow, World.drewN, Array.getElem?_append_left hk]⟩

theorem args1 {K : Bool → Nat → Prop} {w : World} {s : ByteArray} {vals : List Value} (h : VRs [] K w [.str s] vals) : vals = [.string s] := by
  obtain ⟨u, us, rfl, h1, h2⟩ := h
  rw [VR] at h1; rw [VRs] at h2; subst h1; subst h2; rfl
theorem args2 {K : Bool → Nat → Prop} {w : World} {s t : ByteArray} {vals : List Value} (h : VRs [] K w [.str s, .str t] vals) : vals = [.string s, .string t] := by
  obtain ⟨u, us, rfl, h1, h2⟩ := h
  rw [VR] at h1; subst h1; rw [args1 h2]

/-- strings.Cut. -/
theorem call75 {s t : ByteArray} (hs : s.size < 4294967281) : PCalls Zk.pg 75 [.str s, .str t] fun out => out = .ret (.tuple [.str ⟨(Lib.cut s.data.toList t.data.toList).1.toArray⟩, .str ⟨(Lib.cut s.data.toList t.data.toList).2.1.toArray⟩, .bool (Lib.cut s.data.toList t.data.toList).2.2]) := by
  refine pcalls_of ⟨Tryz.f75, Tryz.func75, by kernel_rfl, by kernel_rfl⟩ rfl fun K w vals hx hl => ?_
  obtain ⟨⟨m, hm⟩, _⟩ := hl.1
  rw [args2 hx]
  refine (Tryz.strings_Cut s t m w hs hm).mono ?_
  rintro e w' ⟨rfl, n, rfl⟩
  exact ⟨_, rfl, grown_drewN w n, by rw [VR]; exact ⟨_, rfl, by simp [VRs, VR]⟩⟩

/-- strings.IndexByte. -/
theorem call77 {s : ByteArray} {c : Int} : PCalls Zk.pg 77 [.str s, .int .u8 c] fun out => out = .ret (.int .i64 (Lib.indexByte s.data.toList c.toNat.toUInt8)) := by
  refine pcalls_of ⟨Tryz.f77, Tryz.func77, by kernel_rfl, by kernel_rfl⟩ rfl fun K w vals hx hl => ?_
  obtain ⟨u, us, rfl, h1, u2, us2, rfl, h2, h3⟩ := hx
  rw [VR] at h1
  rw [VR] at h2
  rw [VRs] at h3
  subst h1; subst h2; subst h3
  refine (Tryz.strings_IndexByte s c w).mono ?_
  rintro e w' ⟨rfl, rfl⟩
  exact ⟨_, rfl, ⟨rfl, rfl, rfl, Nat.le_refl _, fun _ _ _ => rfl⟩, by rw [VR]⟩

/-- strings.TrimPrefix. -/
theorem call79 {s t : ByteArray} : PCalls Zk.pg 79 [.str s, .str t] fun out => out = .ret (.str ⟨(Lib.trimPrefix s.data.toList t.data.toList).toArray⟩) := by
  refine pcalls_of ⟨Tryz.f79, Tryz.func79, by kernel_rfl, by kernel_rfl⟩ rfl fun K w vals hx hl => ?_
  rw [args2 hx]
  refine (Tryz.strings_TrimPrefix s t w).mono ?_
  rintro e w' ⟨rfl, rfl⟩
  exact ⟨_, rfl, ⟨rfl, rfl, rfl, Nat.le_refl _, fun _ _ _ => rfl⟩, by rw [VR]⟩

/-- strconv.Itoa. -/
theorem call63 {n : Int} (h0 : -9223372036854775808 ≤ n) (h1 : n ≤ 9223372036854775807) : PCalls Zk.pg 63 [.int .i64 n] fun out => out = .ret (.str ⟨(Lib.itoa n).toArray⟩) := by
  refine pcalls_of ⟨Tryz.f63, Tryz.func63, by kernel_rfl, by kernel_rfl⟩ rfl fun K w vals hx hl => ?_
  obtain ⟨_, _, _, ht⟩ := hl.1
  obtain ⟨u, us, rfl, h2, h3⟩ := hx
  rw [VR] at h2; rw [VRs] at h3; subst h2; subst h3
  refine (Tryz.strconv_Itoa n h0 h1 w ht).mono ?_
  rintro e w' ⟨rfl, k, os, rfl⟩
  exact ⟨_, rfl, grown_grow w k os, by rw [VR]⟩

/-- strings.Split: a new row of texts. -/
theorem call76 {s t : ByteArray} (hs : s.size < 4294967281) (ht : 1 ≤ t.size) : PCalls Zk.pg 76 [.str s, .str t] fun out => out = .ret (.list true 1 ((Lib.splitB t 0 (Lib.countB s t) s).map fun x => [.str x])) := by
  refine pcalls_of ⟨Tryz.f76, Tryz.func76, by kernel_rfl, by kernel_rfl⟩ ?_ fun K w vals hx hl => ?_
  · have : ∀ l : List ByteArray, permLL (l.map fun x => [AV.str x]) = true := by
      intro l; induction l with
      | nil => rfl
      | cons x l ih => simp [permLL, permL, AV.perm, ih]
    simp [AV.perm, this]
  obtain ⟨⟨m, hm⟩, _⟩ := hl.1
  rw [args2 hx]
  refine (Tryz.strings_Split s t m w hs hm ht).mono ?_
  rintro e w' ⟨rfl, rfl⟩
  have hlen := Lib.splitB_all t ht 0 (Lib.countB s t) s rfl
  refine ⟨_, rfl, World.grownBy_alloc _ _ _, ?_⟩
  rw [VR]
  refine ⟨some ⟨w.heap.size, 0, none⟩, Lib.countB s t + 1, w.heap.size, 0, by rw [List.length_map, hlen], by rw [List.length_map, hlen]; exact Nat.le_refl _, .inr ⟨rfl, .inr ⟨Nat.le_refl _, by rw [World.size_alloc]; omega⟩⟩, ?_⟩
  rw [LR_iff]
  intro i c hi
  rw [List.getElem?_map] at hi
  cases hx : (Lib.splitB t 0 (Lib.countB s t) s)[i]? with
  | none => rw [hx] at hi; simp at hi
  | some x =>
    rw [hx] at hi; simp only [Option.map_some, Option.some.injEq] at hi; subst hi
    refine ⟨rfl, ?_⟩
    simp only [CR, and_true]
    refine ⟨.string x, ?_, rfl, by rw [VR]⟩
    have hb := World.alloc_heap_new w (.cells ((Lib.splitB t 0 (Lib.countB s t) s).map Value.string).toArray 9)
    unfold World.cell?
    simp only [hb]
    simp [hx]

theorem grown_same (w : World) : w.grownBy w none := ⟨rfl, rfl, rfl, Nat.le_refl _, fun _ _ _ => rfl⟩
theorem grown_below {w w' : World} (h : RowKit.Below w.heap.size w w') : w.grownBy w' none := ⟨h.os, h.tape, h.output, h.size, fun k hk _ => h.block k hk⟩

/-- What strconv.Atoi tells of a text: a number, and whether it is one. -/
def atoiN (s : ByteArray) : Int × Bool := match Lib.atoiAll s.data.toList with
  | .ok v => (v, true)
  | .range => (Lib.atoiSat s.data.toList, false)
  | _ => (0, false)
def atoiE : Bool → AV
  | true => .const .nilIface
  | false => .iface 221 .any

/-- strconv.Atoi. -/
theorem call78 {s : ByteArray} (hs : s.size ≤ 281474976710656) : PCalls Zk.pg 78 [.str s] fun out => out = .ret (.tuple [.int .i64 (atoiN s).1, atoiE (atoiN s).2]) := by
  refine pcalls_of ⟨Tryz.f78, Tryz.func78, by kernel_rfl, by kernel_rfl⟩ (by cases (atoiN s).2 <;> rfl) fun K w vals hx hl => ?_
  obtain ⟨_, ⟨e1, h1, h1'⟩, ⟨e2, h2, h2'⟩, _⟩ := hl.1
  rw [args1 hx]
  cases h : Lib.atoiAll s.data.toList with
  | ok v =>
    have e : atoiN s = (v, true) := by simp [atoiN, h]
    rw [e]
    refine (Tryz.strconv_Atoi_ok s (by omega) v h w).mono ?_
    rintro e w' ⟨rfl, hw⟩
    refine ⟨_, rfl, ?_, by rw [VR]; exact ⟨_, rfl, by simp [VRs, VR, atoiE]⟩⟩
    rcases hw with rfl | ⟨t, rfl⟩
    · exact grown_same _
    · exact grown_bytes w 5 t
  | range =>
    have e : atoiN s = (Lib.atoiSat s.data.toList, false) := by simp [atoiN, h]
    rw [e]
    refine (Tryz.strconv_Atoi_range s hs h e2 w h2 h2').mono ?_
    rintro e w' ⟨N, rfl, _, _, hb⟩
    exact ⟨_, rfl, grown_below hb, by rw [VR]; exact ⟨_, rfl, _, _, rfl, by rw [VR], _, _, rfl, by rw [atoiE, VR]; exact ⟨_, rfl, by rw [VR]; trivial⟩, rfl⟩⟩
  | _ =>
    have e : atoiN s = (0, false) := by simp [atoiN, h]
    rw [e]
    refine (Tryz.strconv_Atoi_syntax s hs h e1 w h1 h1').mono ?_
    rintro e w' ⟨N, rfl, _, _, hb⟩
    exact ⟨_, rfl, grown_below hb, by rw [VR]; exact ⟨_, rfl, _, _, rfl, by rw [VR], _, _, rfl, by rw [atoiE, VR]; exact ⟨_, rfl, by rw [VR]; trivial⟩, rfl⟩⟩

end Go.Pm

/- ZkS1: code, resolved. Written by gen.py out of what ShowSC.lean printed. -/
namespace Go.Pm
open Go Go.Proofs

/-- ironbark/ironbarkref34.Name -/
def c85 : SC :=
  (.seq (.ops [⟨(some 2), .plain .mv, [.lit (.bool false)], none⟩] [])
  (.seq (.seq (.ops [⟨(some 3), .plain .mv, [.lit (.int .i64 0)], none⟩] [])
  (.block 0
   (.loop
    (.seq (.seq (.ops [⟨(some 4), .plain .mv, [.tmp 3], none⟩,
      ⟨(some 5), .plain .mv, [.tmp 0], none⟩,
      ⟨(some 6), .plain (.len 0), [.tmp 5], none⟩,
      ⟨(some 7), .plain (.bin .lss), [.tmp 4, .tmp 6], none⟩] [4, 5, 6])
    (.cond (.tmp 7)
     .skip
     (.exit 0)))
    (.seq (.block 1
     (.seq (.ops [⟨(some 10), .plain .mv, [.tmp 0], none⟩,
       ⟨(some 11), .plain .mv, [.tmp 3], none⟩,
       ⟨(some 12), .plain .index, [.tmp 10, .tmp 11], none⟩,
       ⟨(some 13), .plain (.bin .lss), [.tmp 12, .lit (.int .u8 33)], none⟩,
       ⟨(some 14), .plain .mv, [.tmp 13], none⟩,
       ⟨(some 15), .plain .mv, [.tmp 0], (some (14, false))⟩,
       ⟨(some 16), .plain .mv, [.tmp 3], (some (14, false))⟩,
       ⟨(some 17), .plain .index, [.tmp 15, .tmp 16], (some (14, false))⟩,
       ⟨(some 18), .plain (.bin .gtr), [.tmp 17, .lit (.int .u8 126)], (some (14, false))⟩,
       ⟨(some 19), .plain .pick, [.tmp 14, .lit (.bool true), .tmp 18], none⟩] [10, 11, 12, 13, 14, 15, 16, 17, 18])
     (.cond (.tmp 19)
      (.seq (.ops [⟨(some 2), .plain .mv, [.lit (.bool false)], none⟩] [])
      .ret)
      .skip)))
    (.ops [⟨(some 8), .plain .mv, [.tmp 3], none⟩,
      ⟨(some 9), .plain (.bin .add), [.tmp 8, .lit (.int .i64 1)], none⟩,
      ⟨(some 3), .plain .mv, [.tmp 9], none⟩] [8, 9]))))))
  (.seq (.ops [⟨(some 20), .plain .mv, [.tmp 0], none⟩,
    ⟨(some 21), .plain (.len 0), [.tmp 20], none⟩,
    ⟨(some 22), .plain (.bin .geq), [.tmp 21, .lit (.int .i64 1)], none⟩,
    ⟨(some 23), .plain .mv, [.tmp 22], none⟩,
    ⟨(some 24), .plain .mv, [.tmp 0], (some (23, true))⟩,
    ⟨(some 25), .plain (.len 0), [.tmp 24], (some (23, true))⟩,
    ⟨(some 26), .plain (.bin .leq), [.tmp 25, .lit (.int .i64 31)], (some (23, true))⟩,
    ⟨(some 27), .plain .pick, [.tmp 23, .tmp 26, .lit (.bool false)], none⟩,
    ⟨(some 2), .plain .mv, [.tmp 27], none⟩] [20, 21, 22, 23, 24, 25, 26, 27])
  .ret)))
def cr85 : List Res := [(2, none)]
theorem ok85 : FOk Zk.pg.toProgram Zk.imp 85 c85 cr85 Tryz.f85.ntmps := ⟨Tryz.f85, _, Tryz.func85, rfl, by kernel_rfl, by kernel_rfl, by kernel_rfl, rfl⟩

/-- ironbark/ironbarkref34.within -/
def c86 : SC :=
  (.seq (.ops [⟨(some 6), .plain .mv, [.lit (.bool false)], none⟩] [])
  (.seq (.ops [⟨(some 7), .plain .mv, [.tmp 0], none⟩,
    ⟨(some 8), .plain .mv, [.tmp 1], none⟩,
    ⟨(some 9), .plain (.bin .geq), [.tmp 7, .tmp 8], none⟩,
    ⟨(some 10), .plain .mv, [.tmp 9], none⟩,
    ⟨(some 11), .plain .mv, [.tmp 0], (some (10, true))⟩,
    ⟨(some 12), .plain .mv, [.tmp 2], (some (10, true))⟩,
    ⟨(some 13), .plain (.bin .leq), [.tmp 11, .tmp 12], (some (10, true))⟩,
    ⟨(some 14), .plain .pick, [.tmp 10, .tmp 13, .lit (.bool false)], none⟩,
    ⟨(some 6), .plain .mv, [.tmp 14], none⟩] [7, 8, 9, 10, 11, 12, 13, 14])
  .ret))
def cr86 : List Res := [(6, none)]
theorem ok86 : FOk Zk.pg.toProgram Zk.imp 86 c86 cr86 Tryz.f86.ntmps := ⟨Tryz.f86, _, Tryz.func86, rfl, by kernel_rfl, by kernel_rfl, by kernel_rfl, rfl⟩

/-- ironbark/link.up -/
def c93 : SC :=
  (.seq (.ops [⟨(some 2), .plain .mv, [.lit (.int .i64 0)], none⟩] [])
  (.seq (.ops [⟨(some 3), .plain .mv, [.tmp 0], none⟩,
    ⟨(some 4), .plain (.bin .add), [.tmp 3, .lit (.int .i64 8)], none⟩,
    ⟨(some 5), .plain (.bin .sub), [.tmp 4, .lit (.int .i64 1)], none⟩,
    ⟨(some 6), .plain (.bin .quo), [.tmp 5, .lit (.int .i64 8)], none⟩,
    ⟨(some 7), .plain (.bin .mul), [.tmp 6, .lit (.int .i64 8)], none⟩,
    ⟨(some 2), .plain .mv, [.tmp 7], none⟩] [3, 4, 5, 6, 7])
  .ret))
def cr93 : List Res := [(2, none)]
theorem ok93 : FOk Zk.pg.toProgram Zk.imp 93 c93 cr93 Tryz.f93.ntmps := ⟨Tryz.f93, _, Tryz.func93, rfl, by kernel_rfl, by kernel_rfl, by kernel_rfl, rfl⟩

/-- ironbark/ironbarkref34.baseOK -/
def c89 : SC :=
  (.seq (.ops [⟨(some 2), .plain .mv, [.lit (.bool false)], none⟩] [])
  (.seq (.ops [⟨(some 3), .plain .mv, [.tmp 0], none⟩,
    ⟨(some 4), .call 86, [.tmp 3, .lit (.int .i64 0), .lit (.int .i64 65528)], none⟩,
    ⟨(some 5), .plain .mv, [.tmp 4], none⟩,
    ⟨(some 6), .plain .mv, [.tmp 0], (some (5, true))⟩,
    ⟨(some 7), .plain (.bin .rem), [.tmp 6, .lit (.int .i64 8)], (some (5, true))⟩,
    ⟨(some 8), .plain (.bin .eql), [.tmp 7, .lit (.int .i64 0)], (some (5, true))⟩,
    ⟨(some 9), .plain .pick, [.tmp 5, .tmp 8, .lit (.bool false)], none⟩,
    ⟨(some 2), .plain .mv, [.tmp 9], none⟩] [3, 4, 5, 6, 7, 8, 9])
  .ret))
def cr89 : List Res := [(2, none)]
theorem ok89 : FOk Zk.pg.toProgram Zk.imp 89 c89 cr89 Tryz.f89.ntmps := ⟨Tryz.f89, _, Tryz.func89, rfl, by kernel_rfl, by kernel_rfl, by kernel_rfl, rfl⟩

/-- ironbark/link.based -/
def c68 : SC :=
  (.seq (.ops [⟨(some 2), .plain .mv, [.lit (.bool false)], none⟩] [])
  (.seq (.ops [⟨(some 3), .plain .mv, [.tmp 0], none⟩,
    ⟨(some 4), .plain (.bin .geq), [.tmp 3, .lit (.int .i64 0)], none⟩,
    ⟨(some 5), .plain .mv, [.tmp 4], none⟩,
    ⟨(some 6), .plain .mv, [.tmp 0], (some (5, true))⟩,
    ⟨(some 7), .plain (.bin .lss), [.tmp 6, .lit (.int .i64 65536)], (some (5, true))⟩,
    ⟨(some 8), .plain .pick, [.tmp 5, .tmp 7, .lit (.bool false)], none⟩,
    ⟨(some 9), .plain .mv, [.tmp 8], none⟩,
    ⟨(some 10), .plain .mv, [.tmp 0], (some (9, true))⟩,
    ⟨(some 11), .plain (.bin .rem), [.tmp 10, .lit (.int .i64 8)], (some (9, true))⟩,
    ⟨(some 12), .plain (.bin .eql), [.tmp 11, .lit (.int .i64 0)], (some (9, true))⟩,
    ⟨(some 13), .plain .pick, [.tmp 9, .tmp 12, .lit (.bool false)], none⟩,
    ⟨(some 2), .plain .mv, [.tmp 13], none⟩] [3, 4, 5, 6, 7, 8, 9, 10, 11, 12, 13])
  .ret))
def cr68 : List Res := [(2, none)]
theorem ok68 : FOk Zk.pg.toProgram Zk.imp 68 c68 cr68 Tryz.f68.ntmps := ⟨Tryz.f68, _, Tryz.func68, rfl, by kernel_rfl, by kernel_rfl, by kernel_rfl, rfl⟩

/-- ironbark/link.named -/
def c80 : SC :=
  (.seq (.ops [⟨(some 2), .plain .mv, [.lit (.bool false)], none⟩] [])
  (.seq (.seq (.ops [⟨(some 4), .plain .mv, [.tmp 0], none⟩,
    ⟨(some 5), .plain (.len 0), [.tmp 4], none⟩,
    ⟨(some 6), .plain .mv, [.lit (.int .i64 0)], none⟩] [4])
  (.block 0
   (.loop
    (.seq (.ops [⟨(some 7), .plain (.bin .lss), [.tmp 6, .tmp 5], none⟩] [])
    (.seq (.cond (.tmp 7)
     .skip
     (.exit 0))
    (.seq (.block 1
     (.seq (.ops [⟨(some 8), .plain .mv, [.tmp 6], none⟩,
       ⟨(some 3), .plain .mv, [.tmp 8], none⟩] [8])
     (.seq (.ops [⟨(some 9), .plain .mv, [.tmp 0], none⟩,
       ⟨(some 10), .plain .mv, [.tmp 3], none⟩,
       ⟨(some 11), .plain .index, [.tmp 9, .tmp 10], none⟩,
       ⟨(some 12), .plain (.bin .lss), [.tmp 11, .lit (.int .u8 33)], none⟩,
       ⟨(some 13), .plain .mv, [.tmp 12], none⟩,
       ⟨(some 14), .plain .mv, [.tmp 0], (some (13, false))⟩,
       ⟨(some 15), .plain .mv, [.tmp 3], (some (13, false))⟩,
       ⟨(some 16), .plain .index, [.tmp 14, .tmp 15], (some (13, false))⟩,
       ⟨(some 17), .plain (.bin .gtr), [.tmp 16, .lit (.int .u8 126)], (some (13, false))⟩,
       ⟨(some 18), .plain .pick, [.tmp 13, .lit (.bool true), .tmp 17], none⟩] [9, 10, 11, 12, 13, 14, 15, 16, 17])
     (.cond (.tmp 18)
      (.seq (.ops [⟨(some 2), .plain .mv, [.lit (.bool false)], none⟩] [])
      .ret)
      .skip))))
    (.ops [⟨(some 19), .plain (.bin .add), [.tmp 6, .lit (.int .i64 1)], none⟩,
      ⟨(some 6), .plain .mv, [.tmp 19], none⟩] [19])))))))
  (.seq (.ops [⟨(some 20), .plain .mv, [.tmp 0], none⟩,
    ⟨(some 21), .plain (.bin .neq), [.tmp 20, .lit (.str ⟨#[]⟩)], none⟩,
    ⟨(some 22), .plain .mv, [.tmp 21], none⟩,
    ⟨(some 23), .plain .mv, [.tmp 0], (some (22, true))⟩,
    ⟨(some 24), .plain (.len 0), [.tmp 23], (some (22, true))⟩,
    ⟨(some 25), .plain (.bin .leq), [.tmp 24, .lit (.int .i64 31)], (some (22, true))⟩,
    ⟨(some 26), .plain .pick, [.tmp 22, .tmp 25, .lit (.bool false)], none⟩,
    ⟨(some 2), .plain .mv, [.tmp 26], none⟩] [20, 21, 22, 23, 24, 25, 26])
  .ret)))
def cr80 : List Res := [(2, none)]
theorem ok80 : FOk Zk.pg.toProgram Zk.imp 80 c80 cr80 Tryz.f80.ntmps := ⟨Tryz.f80, _, Tryz.func80, rfl, by kernel_rfl, by kernel_rfl, by kernel_rfl, rfl⟩

/-- ironbark/ironbarkref34.four -/
def c131 : SC :=
  (.seq (.ops [⟨(some 2), .plain .mv, [.lit (.str ⟨#[]⟩)], none⟩] [])
  (.seq (.ops [⟨(some 3), .plain .mv, [.tmp 0], none⟩,
    ⟨(some 4), .plain (.bin .shr), [.tmp 3, .lit (.int .u64 24)], none⟩,
    ⟨(some 5), .plain (.convInt .u8), [.tmp 4], none⟩,
    ⟨(some 6), .plain .mv, [.tmp 0], none⟩,
    ⟨(some 7), .plain (.bin .shr), [.tmp 6, .lit (.int .u64 16)], none⟩,
    ⟨(some 8), .plain (.convInt .u8), [.tmp 7], none⟩,
    ⟨(some 9), .plain .mv, [.tmp 0], none⟩,
    ⟨(some 10), .plain (.bin .shr), [.tmp 9, .lit (.int .u64 8)], none⟩,
    ⟨(some 11), .plain (.convInt .u8), [.tmp 10], none⟩,
    ⟨(some 12), .plain .mv, [.tmp 0], none⟩,
    ⟨(some 13), .plain (.convInt .u8), [.tmp 12], none⟩,
    ⟨(some 14), .plain (.buildRow 5 1 4 [(.int .u8 0)] [0, 1, 2, 3]), [.tmp 5, .tmp 8, .tmp 11, .tmp 13], none⟩,
    ⟨(some 15), .plain .bytesToStr, [.tmp 14], none⟩,
    ⟨(some 2), .plain .mv, [.tmp 15], none⟩] [3, 4, 5, 6, 7, 8, 9, 10, 11, 12, 13, 14, 15])
  .ret))
def cr131 : List Res := [(2, none)]
theorem ok131 : FOk Zk.pg.toProgram Zk.imp 131 c131 cr131 Tryz.f131.ntmps := ⟨Tryz.f131, _, Tryz.func131, rfl, by kernel_rfl, by kernel_rfl, by kernel_rfl, rfl⟩

end Go.Pm

/- ZkC1: contracts: names. -/
namespace Go.Pm
open Go Go.Proofs

def chOk (b : UInt8) : Bool := !ltI b.toNat 33 && !ltI 126 b.toNat
def nameOk (s : ByteArray) : Bool := s.data.toList.all chOk && leI 1 s.size && leI s.size 31

theorem all_bytes (s : ByteArray) : s.data.toList.all chOk = true ↔ ∀ j, j < s.size → chOk (byteAt s j) = true := by
  rw [List.all_eq_true]
  constructor
  · intro h j hj
    have hj' : j < s.data.toList.length := hj
    apply h
    unfold byteAt
    rw [List.getD_eq_getElem?_getD, List.getElem?_eq_getElem hj', Option.getD_some]
    exact List.getElem_mem hj'
  · intro h b hb
    obtain ⟨j, hj, rfl⟩ := List.mem_iff_getElem.1 hb
    have := h j hj
    unfold byteAt at this
    rwa [List.getD_eq_getElem?_getD, List.getElem?_eq_getElem hj, Option.getD_some] at this

theorem call85 (s : ByteArray) (hs : s.size ≤ 1048576) : PCalls Zk.pg 85 [.str s] fun out => out = .ret (.bool (nameOk s)) := by
  refine ok85.pcalls (by simp) ?_
  simp [c85]
  refine wpS_loop (ι := Nat) (fun i => [(0, .str s), (2, .bool false), (3, .int .i64 i)]) (fun _ => Mem.empty) (fun i => s.size - i) (fun i => i ≤ s.size ∧ ∀ j, j < i → chOk (byteAt s j) = true) 0 (by simp) (Env.le_of (by simp)) rfl ?_
  intro i ⟨hi, hall⟩
  have hw : IntKind.i64.wrap (i + 1) = i + 1 := wrap64 (by omega) (by omega)
  have bad : ltI ↑i ↑s.size = true → chOk (byteAt s i) = false → nameOk s = false := fun h1 h2 => by
    cases hn : nameOk s with
    | false => rfl
    | true =>
      simp only [nameOk, Bool.and_eq_true] at hn
      have := (all_bytes s).1 hn.1.1 i (by have := ltI_t.1 h1; omega)
      rw [h2] at this; cases this
  simp
  refine br_cond rfl (fun h => ?_) (fun h => ?_)
  · simp [h, idxS]
    have next : chOk (byteAt s i) = true → ∃ s', (s' ≤ s.size ∧ ∀ (j : Nat), j < s' → chOk (byteAt s j) = true) ∧ s.size - s' < s.size - i ∧ Env.le [(0, AV.str s), (2, AV.bool false), (3, AV.int IntKind.i64 ↑s')] [(0, AV.str s), (2, AV.bool false), (3, AV.int IntKind.i64 (↑i + 1)), (7, AV.bool true), (19, AV.bool false)] ∧ Mem.le { store := [], next := 0 } { store := [], next := 0 } := fun hc => by
      have := ltI_t.1 h
      refine ⟨i + 1, ⟨by omega, fun j hj => ?_⟩, by omega, Env.le_of (by simp), Mem.le_of rfl (by simp)⟩
      rcases Nat.lt_or_ge j i with hj' | hj'
      · exact hall j hj'
      · rw [show j = i by omega]; exact hc
    refine br_guard_f rfl (fun h1 => ?_) (fun h1 => ?_)
    · simp [h1, cr85, bad h (by simp [chOk, h1])]
    · simp [h1, h, idxS]
      refine br_cond rfl (fun h2 => ?_) (fun h2 => ?_)
      · simp [cr85, bad h (by simp [chOk, h2])]
      · simp [h2, hw]
        exact next (by simp [chOk, h1, h2])
  · simp [h]
    have hi' : i = s.size := by have := ltI_f.1 h; omega
    have hA : s.data.toList.all chOk = true := (all_bytes s).2 fun j hj => hall j (by omega)
    refine br_guard_t rfl (fun h1 => ?_) (fun h1 => ?_)
    · simp [h1, cr85, nameOk, hA]
    · simp [h1, cr85, nameOk, hA]
end Go.Pm

/- ZkC2: contracts: numbers. -/
namespace Go.Pm
open Go Go.Proofs

def withinF (n a b : Int) : Bool := leI a n && leI n b

theorem call86 (n a b : Int) : PCalls Zk.pg 86 [.int .i64 n, .int .i64 a, .int .i64 b] fun out => out = .ret (.bool (withinF n a b)) := by
  refine ok86.pcalls (by simp) ?_
  simp [c86]
  refine br_guard_t rfl (fun h1 => ?_) (fun h1 => ?_)
  · simp [h1, cr86, withinF]
  · simp [h1, cr86, withinF]

theorem call93 (n : Int) (h0 : 0 ≤ n) (h1 : n ≤ 1000000000000) : PCalls Zk.pg 93 [.int .i64 n] fun out => out = .ret (.int .i64 ((n + 7) / 8 * 8)) := by
  refine ok93.pcalls (by simp) ?_
  have hd : (n + 7).tdiv 8 = (n + 7) / 8 := Int.tdiv_eq_ediv_of_nonneg (by omega)
  simp [c93, cr93]
  rw [wrap64 (n := n + 8) (by omega) (by omega), wrap64 (n := n + 8 - 1) (by omega) (by omega), show n + 8 - 1 = n + 7 by omega, hd, wrap64 (n := (n + 7) / 8) (by omega) (by omega), wrap64 (by omega) (by omega)]

def baseF (n : Int) : Bool := withinF n 0 65528 && eqI (n.tmod 8) 0

theorem call89 (n : Int) : PCalls Zk.pg 89 [.int .i64 n] fun out => out = .ret (.bool (baseF n)) := by
  refine ok89.pcalls (by simp) ?_
  simp [c89]
  refine xcall_p (call86 n 0 65528) rfl ?_
  simp
  refine br_guard_t rfl (fun h1 => ?_) (fun h1 => ?_)
  · simp [h1, cr89, baseF]
  · simp [h1, cr89, baseF]

theorem call68 (n : Int) : PCalls Zk.pg 68 [.int .i64 n] fun out => out = .ret (.bool (baseF n)) := by
  have e : baseF n = (leI 0 n && ltI n 65536 && eqI (n.tmod 8) 0) := by
    simp only [baseF, withinF]
    cases h : leI 0 n with
    | false => rfl
    | true =>
      cases h8 : eqI (n.tmod 8) 0 with
      | false => simp
      | true =>
        have h0 := leI_t.1 h
        have h8' := eqI_t.1 h8
        rw [Int.tmod_eq_emod_of_nonneg h0] at h8'
        have : leI n 65528 = ltI n 65536 := by
          simp only [leI, ltI, decide_eq_decide]; omega
        rw [this]
  refine ok68.pcalls (by simp) ?_
  simp [c68]
  refine br_guard_t rfl (fun h1 => ?_) (fun h1 => ?_)
  · simp [h1]
    refine br_guard_t rfl (fun h2 => ?_) (fun h2 => ?_)
    · simp [h1, h2, cr68, e]
    · simp [h1, h2, cr68, e]
  · simp [h1, cr68, e]

theorem eqS_t {a b : ByteArray} : eqS a b = true ↔ a = b := by
  unfold eqS
  rw [← beq_toListBytes, beq_bytes]

theorem size_zero {s : ByteArray} : s.size = 0 ↔ s = ⟨#[]⟩ := by
  obtain ⟨⟨l⟩⟩ := s
  simp [ByteArray.size]

theorem call80 (s : ByteArray) (hs : s.size ≤ 1048576) : PCalls Zk.pg 80 [.str s] fun out => out = .ret (.bool (nameOk s)) := by
  refine ok80.pcalls (by simp) ?_
  simp [c80]
  refine wpS_loop (ι := Nat) (fun i => [(0, .str s), (2, .bool false), (5, .int .i64 s.size), (6, .int .i64 i)]) (fun _ => Mem.empty) (fun i => s.size - i) (fun i => i ≤ s.size ∧ ∀ j, j < i → chOk (byteAt s j) = true) 0 (by simp) (Env.le_of (by simp)) rfl ?_
  intro i ⟨hi, hall⟩
  have hw : IntKind.i64.wrap (i + 1) = i + 1 := wrap64 (by omega) (by omega)
  have bad : ltI ↑i ↑s.size = true → chOk (byteAt s i) = false → nameOk s = false := fun h1 h2 => by
    cases hn : nameOk s with
    | false => rfl
    | true =>
      simp only [nameOk, Bool.and_eq_true] at hn
      have := (all_bytes s).1 hn.1.1 i (by have := ltI_t.1 h1; omega)
      rw [h2] at this; cases this
  simp
  refine br_cond rfl (fun h => ?_) (fun h => ?_)
  · simp [h, idxS]
    have next : ∀ a b c : AV, chOk (byteAt s i) = true → ∃ s', (s' ≤ s.size ∧ ∀ (j : Nat), j < s' → chOk (byteAt s j) = true) ∧ s.size - s' < s.size - i ∧ Env.le [(0, AV.str s), (2, AV.bool false), (5, .int .i64 s.size), (6, AV.int IntKind.i64 ↑s')]
        [(0, AV.str s), (2, AV.bool false), (3, a), (5, .int .i64 s.size), (6, AV.int IntKind.i64 (↑i + 1)), (7, b), (18, c)] ∧ Mem.le { store := [], next := 0 } { store := [], next := 0 } := fun a b c hc => by
      have := ltI_t.1 h
      refine ⟨i + 1, ⟨by omega, fun j hj => ?_⟩, by omega, Env.le_of (by simp), Mem.le_of rfl (by simp)⟩
      rcases Nat.lt_or_ge j i with hj' | hj'
      · exact hall j hj'
      · rw [show j = i by omega]; exact hc
    refine br_guard_f rfl (fun h1 => ?_) (fun h1 => ?_)
    · simp [h1, cr80, bad h (by simp [chOk, h1])]
    · simp [h1, h, idxS]
      refine br_cond rfl (fun h2 => ?_) (fun h2 => ?_)
      · simp [cr80, bad h (by simp [chOk, h2])]
      · simp [h2, hw]
        exact next _ _ _ (by simp [chOk, h1, h2])
  · simp [h]
    have hi' : i = s.size := by have := ltI_f.1 h; omega
    have hA : s.data.toList.all chOk = true := (all_bytes s).2 fun j hj => hall j (by omega)
    have he : (!eqS s ⟨#[]⟩) = leI 1 s.size := by
      cases hq : eqS s ⟨#[]⟩ with
      | true =>
        have := size_zero.2 (eqS_t.1 hq)
        rw [this]; rfl
      | false =>
        have : s.size ≠ 0 := fun hz => by rw [eqS_t.2 (size_zero.1 hz)] at hq; cases hq
        rw [leI_t.2 (by omega)]; rfl
    refine br_guard_t rfl (fun h1 => ?_) (fun h1 => ?_)
    · have h1' := h1
      rw [he] at h1'
      simp at h1
      simp [h1, h1', cr80, nameOk, hA]
    · have h1' := h1
      rw [he] at h1'
      simp at h1
      simp [h1, h1', cr80, nameOk, hA]

end Go.Pm

/- ZkD: objects and images, as values. -/
namespace Go.Pm
open Go Go.Proofs

def ix {α : Type} [Inhabited α] (l : List α) (i : Nat) : α := l.getD i default
theorem idx {α : Type} [Inhabited α] {l : List α} {i : Nat} (h : ltI ↑i ↑l.length = true) : l[i]? = some (ix l i) := by
  have h1 : i < l.length := by have := ltI_t.1 h; omega
  simp [ix, List.getD, h1]
theorem idxM {α β : Type} [Inhabited α] {f : α → β} {l : List α} {i : Nat} (h : ltI ↑i ↑l.length = true) : (l.map f)[i]? = some (f (ix l i)) := by
  rw [List.getElem?_map, idx h]; rfl
theorem ix_mem {α : Type} [Inhabited α] {l : List α} {i : Nat} (h : i < l.length) : ix l i ∈ l := by
  simp [ix, List.getD, h]
theorem ltN {i n : Nat} (h : i < n) : ltI ↑i ↑n = true := ltI_t.2 (by omega)

structure DDef where
  name : ByteArray
  at_ : Int
  deriving DecidableEq
structure DRef where
  at_ : Int
  name : ByteArray
  plus : Int
  deriving DecidableEq
structure DLine where
  at_ : Int
  stmt : Int
  deriving DecidableEq
structure Deck where
  name : ByteArray
  code : ByteArray
  defs : List DDef
  refs : List DRef
  lines : List DLine
  deriving DecidableEq
structure Img where
  base : Int
  code : ByteArray
  defs : List DDef
  lines : List DLine
  names : List DDef
  deriving DecidableEq
instance : Inhabited ByteArray := ⟨⟨#[]⟩⟩
instance : Inhabited DDef := ⟨⟨⟨#[]⟩, 0⟩⟩
instance : Inhabited DRef := ⟨⟨0, ⟨#[]⟩, 0⟩⟩
instance : Inhabited DLine := ⟨⟨0, 0⟩⟩
instance : Inhabited Deck := ⟨⟨⟨#[]⟩, ⟨#[]⟩, [], [], []⟩⟩

def DDef.av (d : DDef) : List AV := [.str d.name, .int .i64 d.at_]
def DRef.av (d : DRef) : List AV := [.int .i64 d.at_, .str d.name, .int .i64 d.plus]
def DLine.av (d : DLine) : List AV := [.int .i64 d.at_, .int .i64 d.stmt]
def Deck.av (o : Deck) : List AV := [.str o.name, .str o.code, .list true 2 (o.defs.map DDef.av), .list true 3 (o.refs.map DRef.av), .list true 2 (o.lines.map DLine.av)]
def Img.av (o : Img) : List AV := [.int .i64 o.base, .str o.code, .list true 2 (o.defs.map DDef.av), .list true 2 (o.lines.map DLine.av), .list true 2 (o.names.map DDef.av)]
def decksAV (l : List Deck) : AV := .list true 5 (l.map Deck.av)

@[simp] theorem perm_defs : ∀ l : List DDef, permLL (l.map DDef.av) = true
  | [] => rfl
  | d :: l => by simp only [List.map_cons, permLL, perm_defs l, DDef.av, permL, AV.perm, Bool.and_self]
@[simp] theorem perm_refs : ∀ l : List DRef, permLL (l.map DRef.av) = true
  | [] => rfl
  | d :: l => by simp only [List.map_cons, permLL, perm_refs l, DRef.av, permL, AV.perm, Bool.and_self]
@[simp] theorem perm_lines : ∀ l : List DLine, permLL (l.map DLine.av) = true
  | [] => rfl
  | d :: l => by simp only [List.map_cons, permLL, perm_lines l, DLine.av, permL, AV.perm, Bool.and_self]
@[simp] theorem perm_decks : ∀ l : List Deck, permLL (l.map Deck.av) = true
  | [] => rfl
  | d :: l => by simp only [List.map_cons, permLL, perm_decks l, Deck.av, permL, AV.perm, perm_defs, perm_refs, perm_lines, Bool.and_self]
@[simp] theorem noref_defs : ∀ l : List DDef, norefLL (l.map DDef.av) = true
  | [] => rfl
  | d :: l => by simp only [List.map_cons, norefLL, noref_defs l, DDef.av, norefL, AV.noref, Bool.and_self]
@[simp] theorem noref_refs : ∀ l : List DRef, norefLL (l.map DRef.av) = true
  | [] => rfl
  | d :: l => by simp only [List.map_cons, norefLL, noref_refs l, DRef.av, norefL, AV.noref, Bool.and_self]
@[simp] theorem noref_lines : ∀ l : List DLine, norefLL (l.map DLine.av) = true
  | [] => rfl
  | d :: l => by simp only [List.map_cons, norefLL, noref_lines l, DLine.av, norefL, AV.noref, Bool.and_self]
@[simp] theorem noref_decks : ∀ l : List Deck, norefLL (l.map Deck.av) = true
  | [] => rfl
  | d :: l => by simp only [List.map_cons, norefLL, noref_decks l, Deck.av, norefL, AV.noref, noref_defs, noref_refs, noref_lines, Bool.and_self]
@[simp] theorem norefL_deck (o : Deck) : norefL o.av = true := by simp only [Deck.av, norefL, AV.noref, noref_defs, noref_refs, noref_lines, Bool.and_self]
@[simp] theorem permL_deck (o : Deck) : permL o.av = true := by simp only [Deck.av, permL, AV.perm, perm_defs, perm_refs, perm_lines, Bool.and_self]

structure Deck.Small (o : Deck) : Prop where
  name : o.name.size ≤ 1048576
  code : o.code.size ≤ 1048576
  defs : o.defs.length ≤ 1048576
  refs : o.refs.length ≤ 1048576
  lines : o.lines.length ≤ 1048576
  dname : ∀ d ∈ o.defs, d.name.size ≤ 1048576
  rname : ∀ d ∈ o.refs, d.name.size ≤ 1048576

theorem all_f {n i : Nat} {p : Nat → Bool} (h : i < n) (hp : p i = false) : (List.range n).all p = false := by
  cases ha : (List.range n).all p with
  | false => rfl
  | true => rw [List.all_eq_true] at ha; rw [ha i (List.mem_range.2 h)] at hp; cases hp
theorem all_t {n : Nat} {p : Nat → Bool} (h : ∀ i, i < n → p i = true) : (List.range n).all p = true := by
  rw [List.all_eq_true]; intro i hi; exact h i (List.mem_range.1 hi)
theorem upto {p : Nat → Prop} {i : Nat} (h : ∀ j, j < i → p j) (hi : p i) : ∀ j, j < i + 1 → p j := fun j hj => by
  rcases Nat.lt_or_ge j i with h1 | h1
  · exact h j h1
  · rw [show j = i by omega]; exact hi

def defOk (n : Int) (ds : List DDef) (i : Nat) : Bool := nameOk (ix ds i).name && withinF (ix ds i).at_ 0 n && eqI ((ix ds i).at_.tmod 2) 0 && (List.range i).all fun k => !eqS (ix ds k).name (ix ds i).name
def refOk (n : Int) (ds : List DRef) (i : Nat) : Bool := nameOk (ix ds i).name && withinF (ix ds i).at_ 0 (n - 4) && eqI ((ix ds i).at_.tmod 4) 0 && withinF (ix ds i).plus (-1000000000) 1000000000 && (List.range i).all fun k => !eqI (ix ds k).at_ (ix ds i).at_
def lineOk (n : Int) (ds : List DLine) (i : Nat) : Bool := withinF (ix ds i).at_ 0 (n - 1) && eqI ((ix ds i).at_.tmod 2) 0 && withinF (ix ds i).stmt 0 1000000000 && !(ltI 0 i && leI (ix ds i).at_ (ix ds (i - 1)).at_)
def deckOk (o : Deck) : Bool := nameOk o.name && !ltI 20000 o.code.size && eqI ((o.code.size : Int).tmod 2) 0 && (List.range o.defs.length).all (defOk o.code.size o.defs) && (List.range o.refs.length).all (refOk o.code.size o.refs) && (List.range o.lines.length).all (lineOk o.code.size o.lines)

end Go.Pm

/- ZkS11: code, resolved. Written by gen.py out of what ShowSC.lean printed. -/
namespace Go.Pm
open Go Go.Proofs

/-- ironbark/link.must -/
def c24 : SC :=
  (.seq (.ops [⟨(some 2), .plain .mv, [.tmp 0], none⟩,
    ⟨(some 3), .plain (.un .not), [.tmp 2], none⟩] [2])
  (.cond (.tmp 3)
   (.ops [⟨(some 4), .plain (.build [] []), [], none⟩,
     ⟨(some 5), .plain (.mkIface 67), [.tmp 4], none⟩,
     ⟨none, .panic, [.tmp 5], none⟩] [4, 5])
   .skip))
def cr24 : List Res := []
theorem ok24 : FOk Zk.pg.toProgram Zk.imp 24 c24 cr24 Tryz.f24.ntmps := ⟨Tryz.f24, _, Tryz.func24, rfl, by kernel_rfl, by kernel_rfl, by kernel_rfl, rfl⟩

/-- ironbark/link.lines$1 -/
def c74 : SC :=
  (.block 0
   (.loop
    (.seq (.seq (.ops [⟨(some 10), .plain (.load false 1), [.tmp 1], none⟩,
      ⟨(some 11), .plain (.bin .neq), [.tmp 10, .lit (.str ⟨#[]⟩)], none⟩] [10])
    (.cond (.tmp 11)
     .skip
     (.exit 0)))
    (.block 1
     (.seq (.ops [⟨(some 13), .plain (.load false 1), [.tmp 1], none⟩,
       ⟨(some 14), .call 75, [.tmp 13, .lit (.str ⟨#[10]⟩)], none⟩,
       ⟨(some 12), .plain .mv, [.tmp 14], none⟩,
       ⟨(some 15), .plain (.extract 0), [.tmp 12], none⟩,
       ⟨(some 16), .plain (.extract 1), [.tmp 12], none⟩,
       ⟨(some 17), .plain (.extract 2), [.tmp 12], none⟩,
       ⟨(some 3), .plain .mv, [.tmp 15], none⟩,
       ⟨(some 4), .plain .mv, [.tmp 16], none⟩,
       ⟨(some 5), .plain .mv, [.tmp 17], none⟩] [13, 14, 12, 15, 16, 17])
     (.seq (.ops [⟨(some 18), .plain .mv, [.tmp 5], none⟩,
       ⟨(some 19), .call 24, [.tmp 18], none⟩] [18, 19])
     (.seq (.ops [⟨(some 20), .plain .mv, [.tmp 3], none⟩,
       ⟨(some 21), .call 76, [.tmp 20, .lit (.str ⟨#[32]⟩)], none⟩,
       ⟨(some 6), .plain .mv, [.tmp 21], none⟩] [20, 21])
     (.seq (.seq (.ops [⟨(some 22), .plain .mv, [.tmp 6], none⟩,
       ⟨(some 23), .plain (.len 1), [.tmp 22], none⟩,
       ⟨(some 24), .plain .mv, [.lit (.int .i64 0)], none⟩] [])
     (.block 2
      (.loop
       (.seq (.ops [⟨(some 25), .plain (.bin .lss), [.tmp 24, .tmp 23], none⟩] [])
       (.seq (.cond (.tmp 25)
        .skip
        (.exit 2))
       (.seq (.block 3
        (.seq (.ops [⟨(some 26), .plain (.indexAddr 1), [.tmp 22, .tmp 24], none⟩,
          ⟨(some 27), .plain (.load false 1), [.tmp 26], none⟩,
          ⟨(some 8), .plain .mv, [.tmp 27], none⟩] [26, 27])
        (.seq (.ops [⟨(some 28), .plain .mv, [.tmp 8], none⟩,
          ⟨(some 29), .plain (.bin .neq), [.tmp 28, .lit (.str ⟨#[]⟩)], none⟩,
          ⟨(some 30), .call 24, [.tmp 29], none⟩] [28, 29, 30])
        (.seq (.ops [⟨(some 31), .plain .mv, [.tmp 8], none⟩,
          ⟨(some 32), .plain (.len 0), [.tmp 31], none⟩,
          ⟨(some 33), .plain .mv, [.lit (.int .i64 0)], none⟩] [31])
        (.block 4
         (.loop
          (.seq (.ops [⟨(some 34), .plain (.bin .lss), [.tmp 33, .tmp 32], none⟩] [])
          (.seq (.cond (.tmp 34)
           .skip
           (.exit 4))
          (.seq (.block 5
           (.seq (.ops [⟨(some 35), .plain .mv, [.tmp 33], none⟩,
             ⟨(some 9), .plain .mv, [.tmp 35], none⟩] [35])
           (.ops [⟨(some 36), .plain .mv, [.tmp 8], none⟩,
             ⟨(some 37), .plain .mv, [.tmp 9], none⟩,
             ⟨(some 38), .plain .index, [.tmp 36, .tmp 37], none⟩,
             ⟨(some 39), .plain (.bin .geq), [.tmp 38, .lit (.int .u8 33)], none⟩,
             ⟨(some 40), .plain .mv, [.tmp 39], none⟩,
             ⟨(some 41), .plain .mv, [.tmp 8], (some (40, true))⟩,
             ⟨(some 42), .plain .mv, [.tmp 9], (some (40, true))⟩,
             ⟨(some 43), .plain .index, [.tmp 41, .tmp 42], (some (40, true))⟩,
             ⟨(some 44), .plain (.bin .leq), [.tmp 43, .lit (.int .u8 126)], (some (40, true))⟩,
             ⟨(some 45), .plain .pick, [.tmp 40, .tmp 44, .lit (.bool false)], none⟩,
             ⟨(some 46), .call 24, [.tmp 45], none⟩] [36, 37, 38, 39, 40, 41, 42, 43, 44, 45, 46])))
          (.ops [⟨(some 47), .plain (.bin .add), [.tmp 33, .lit (.int .i64 1)], none⟩,
            ⟨(some 33), .plain .mv, [.tmp 47], none⟩] [47]))))))))))
       (.ops [⟨(some 48), .plain (.bin .add), [.tmp 24, .lit (.int .i64 1)], none⟩,
         ⟨(some 24), .plain .mv, [.tmp 48], none⟩] [48])))))))
     (.seq (.seq (.ops [⟨(some 49), .plain .mv, [.tmp 0], none⟩,
       ⟨(some 50), .plain .mv, [.tmp 6], none⟩,
       ⟨(some 51), .callv, [.tmp 49, .tmp 50], none⟩,
       ⟨(some 52), .plain (.un .not), [.tmp 51], none⟩] [49, 50, 51])
     (.cond (.tmp 52)
      .ret
      .skip))
     (.ops [⟨(some 53), .plain .mv, [.tmp 4], none⟩,
       ⟨none, .plain (.store 1), [.tmp 1, .tmp 53], none⟩] [53]))))))))))
def cr74 : List Res := []
theorem ok74 : FOk Zk.pg.toProgram Zk.imp 74 c74 cr74 Tryz.f74.ntmps := ⟨Tryz.f74, _, Tryz.func74, rfl, by kernel_rfl, by kernel_rfl, by kernel_rfl, rfl⟩

/-- ironbark/link.lines -/
def c23 : SC :=
  (.seq (.ops [⟨(some 1), .plain (.box 1), [.tmp 0], none⟩,
    ⟨(some 2), .plain .mv, [.lit (.const .nilFunc)], none⟩] [])
  (.seq (.ops [⟨(some 3), .plain (.mkFn 74), [.tmp 1], none⟩,
    ⟨(some 2), .plain .mv, [.tmp 3], none⟩] [3])
  .ret))
def cr23 : List Res := [(2, none)]
theorem ok23 : FOk Zk.pg.toProgram Zk.imp 23 c23 cr23 Tryz.f23.ntmps := ⟨Tryz.f23, _, Tryz.func23, rfl, by kernel_rfl, by kernel_rfl, by kernel_rfl, rfl⟩

/-- ironbark/link.bytes -/
def c25 : SC :=
  (.seq (.ops [⟨(some 2), .plain .mv, [.lit (.str ⟨#[]⟩)], none⟩] [])
  (.seq (.ops [⟨(some 7), .plain .mv, [.tmp 0], none⟩,
    ⟨(some 8), .plain (.len 0), [.tmp 7], none⟩,
    ⟨(some 9), .plain (.bin .rem), [.tmp 8, .lit (.int .i64 2)], none⟩,
    ⟨(some 10), .plain (.bin .eql), [.tmp 9, .lit (.int .i64 0)], none⟩,
    ⟨(some 11), .call 24, [.tmp 10], none⟩] [7, 8, 9, 10, 11])
  (.seq (.ops [⟨(some 3), .plain .mv, [.lit .nilS], none⟩] [])
  (.seq (.seq (.ops [⟨(some 4), .plain .mv, [.lit (.int .i64 0)], none⟩] [])
  (.block 0
   (.loop
    (.seq (.seq (.ops [⟨(some 12), .plain .mv, [.tmp 4], none⟩,
      ⟨(some 13), .plain .mv, [.tmp 0], none⟩,
      ⟨(some 14), .plain (.len 0), [.tmp 13], none⟩,
      ⟨(some 15), .plain (.bin .lss), [.tmp 12, .tmp 14], none⟩] [12, 13, 14])
    (.cond (.tmp 15)
     .skip
     (.exit 0)))
    (.seq (.block 1
     (.seq (.draw (.step ⟨(some 18), .plain .mv, [.tmp 0], none⟩
       (.step ⟨(some 19), .plain .mv, [.tmp 4], none⟩
       (.step ⟨(some 20), .plain .index, [.tmp 18, .tmp 19], none⟩
       (.step ⟨(some 21), .call 77, [.lit (.str ⟨#[48, 49, 50, 51, 52, 53, 54, 55, 56, 57, 65, 66, 67, 68, 69, 70]⟩), .tmp 20], none⟩
       (.step ⟨(some 22), .plain .mv, [.tmp 0], none⟩
       (.step ⟨(some 23), .plain .mv, [.tmp 4], none⟩
       (.step ⟨(some 24), .plain (.bin .add), [.tmp 23, .lit (.int .i64 1)], none⟩
       (.step ⟨(some 25), .plain .index, [.tmp 22, .tmp 24], none⟩
       (.step ⟨(some 26), .call 77, [.lit (.str ⟨#[48, 49, 50, 51, 52, 53, 54, 55, 56, 57, 65, 66, 67, 68, 69, 70]⟩), .tmp 25], none⟩
       (.step ⟨(some 5), .plain .mv, [.tmp 21], none⟩
       (.step ⟨(some 6), .plain .mv, [.tmp 26], none⟩
       .done))))))))))) [18, 19, 20, 21, 22, 23, 24, 25, 26])
     (.seq (.ops [⟨(some 27), .plain .mv, [.tmp 5], none⟩,
       ⟨(some 28), .plain (.bin .geq), [.tmp 27, .lit (.int .i64 0)], none⟩,
       ⟨(some 29), .plain .mv, [.tmp 28], none⟩,
       ⟨(some 30), .plain .mv, [.tmp 6], (some (29, true))⟩,
       ⟨(some 31), .plain (.bin .geq), [.tmp 30, .lit (.int .i64 0)], (some (29, true))⟩,
       ⟨(some 32), .plain .pick, [.tmp 29, .tmp 31, .lit (.bool false)], none⟩,
       ⟨(some 33), .call 24, [.tmp 32], none⟩] [27, 28, 29, 30, 31, 32, 33])
     (.ops [⟨(some 34), .plain .mv, [.tmp 3], none⟩,
       ⟨(some 35), .plain .mv, [.tmp 5], none⟩,
       ⟨(some 36), .plain (.bin .shl), [.tmp 35, .lit (.int .u64 4)], none⟩,
       ⟨(some 37), .plain .mv, [.tmp 6], none⟩,
       ⟨(some 38), .plain (.bin .or), [.tmp 36, .tmp 37], none⟩,
       ⟨(some 39), .plain (.convInt .u8), [.tmp 38], none⟩,
       ⟨(some 40), .plain (.buildRow 5 1 1 [(.int .u8 0)] [0]), [.tmp 39], none⟩,
       ⟨(some 41), .plain (.append 5 1 1), [.tmp 34, .tmp 40], none⟩,
       ⟨(some 3), .plain .mv, [.tmp 41], none⟩] [34, 35, 36, 37, 38, 39, 40, 41]))))
    (.ops [⟨(some 16), .plain .mv, [.tmp 4], none⟩,
      ⟨(some 17), .plain (.bin .add), [.tmp 16, .lit (.int .i64 2)], none⟩,
      ⟨(some 4), .plain .mv, [.tmp 17], none⟩] [16, 17]))))))
  (.seq (.ops [⟨(some 42), .plain .mv, [.tmp 3], none⟩,
    ⟨(some 43), .plain .bytesToStr, [.tmp 42], none⟩,
    ⟨(some 2), .plain .mv, [.tmp 43], none⟩] [42, 43])
  .ret)))))
def cr25 : List Res := [(2, none)]
theorem ok25 : FOk Zk.pg.toProgram Zk.imp 25 c25 cr25 Tryz.f25.ntmps := ⟨Tryz.f25, _, Tryz.func25, rfl, by kernel_rfl, by kernel_rfl, by kernel_rfl, rfl⟩

/-- ironbark/link.number -/
def c26 : SC :=
  (.seq (.ops [⟨(some 2), .plain .mv, [.lit (.int .i64 0)], none⟩] [])
  (.seq (.ops [⟨(some 6), .plain .mv, [.tmp 0], none⟩,
    ⟨(some 7), .call 78, [.tmp 6], none⟩,
    ⟨(some 5), .plain .mv, [.tmp 7], none⟩,
    ⟨(some 8), .plain (.extract 0), [.tmp 5], none⟩,
    ⟨(some 9), .plain (.extract 1), [.tmp 5], none⟩,
    ⟨(some 3), .plain .mv, [.tmp 8], none⟩,
    ⟨(some 4), .plain .mv, [.tmp 9], none⟩] [6, 7, 5, 8, 9])
  (.seq (.ops [⟨(some 10), .plain .mv, [.tmp 4], none⟩,
    ⟨(some 11), .plain (.eqNil false false), [.tmp 10, .lit (.const .nilIface)], none⟩,
    ⟨(some 12), .plain .mv, [.tmp 11], none⟩,
    ⟨(some 13), .plain .mv, [.tmp 0], (some (12, true))⟩,
    ⟨(some 14), .call 79, [.tmp 13, .lit (.str ⟨#[45]⟩)], (some (12, true))⟩,
    ⟨(some 15), .plain (.len 0), [.tmp 14], (some (12, true))⟩,
    ⟨(some 16), .plain (.bin .leq), [.tmp 15, .lit (.int .i64 10)], (some (12, true))⟩,
    ⟨(some 17), .plain .pick, [.tmp 12, .tmp 16, .lit (.bool false)], none⟩,
    ⟨(some 18), .plain .mv, [.tmp 17], none⟩,
    ⟨(some 19), .plain .mv, [.tmp 3], (some (18, true))⟩,
    ⟨(some 20), .call 63, [.tmp 19], (some (18, true))⟩,
    ⟨(some 21), .plain .mv, [.tmp 0], (some (18, true))⟩,
    ⟨(some 22), .plain (.bin .eql), [.tmp 20, .tmp 21], (some (18, true))⟩,
    ⟨(some 23), .plain .pick, [.tmp 18, .tmp 22, .lit (.bool false)], none⟩,
    ⟨(some 24), .call 24, [.tmp 23], none⟩] [10, 11, 12, 13, 14, 15, 16, 17, 18, 19, 20, 21, 22, 23, 24])
  (.seq (.ops [⟨(some 25), .plain .mv, [.tmp 3], none⟩,
    ⟨(some 2), .plain .mv, [.tmp 25], none⟩] [25])
  .ret))))
def cr26 : List Res := [(2, none)]
theorem ok26 : FOk Zk.pg.toProgram Zk.imp 26 c26 cr26 Tryz.f26.ntmps := ⟨Tryz.f26, _, Tryz.func26, rfl, by kernel_rfl, by kernel_rfl, by kernel_rfl, rfl⟩

/-- ironbark/link.Read$1, behind its recover -/
def c22 : SC :=
  (.block 0
   (.seq (.ops [⟨(some 7), .plain (.eqNil false false), [.tmp 5, .lit (.const .nilIface)], none⟩] [])
   (.cond (.tmp 7)
    (.ops [⟨(some 2), .plain .mv, [.tmp 5], none⟩] [2])
    (.seq (.ops [⟨(some 8), .plain (.typeAssert 67 (.agg [])), [.tmp 5], none⟩,
      ⟨(some 9), .plain (.extract 1), [.tmp 8], none⟩,
      ⟨(some 10), .plain (.extract 0), [.tmp 8], none⟩] [8])
    (.cond (.tmp 9)
     (.seq (.ops [⟨(some 3), .plain (.alloc []), [], none⟩,
       ⟨none, .plain (.store 0), [.tmp 3, .tmp 10], none⟩] [3])
     (.ops [⟨(some 11), .plain (.build [(.str ⟨#[]⟩), (.str ⟨#[]⟩), .nilS, .nilS, .nilS] []), [], none⟩,
       ⟨none, .plain (.store 5), [.tmp 0, .tmp 11], none⟩,
       ⟨none, .plain (.store 1), [.tmp 1, .lit (.int .i64 2)], none⟩] [11]))
     (.seq (.ops [⟨(some 4), .plain .mv, [.tmp 5], none⟩] [])
     (.ops [⟨(some 6), .plain .mv, [.tmp 4], none⟩,
       ⟨none, .panic, [.tmp 6], none⟩] [6])))))))
theorem ok22 : FOkR Zk.pg.toProgram Zk.imp 22 5 c22 Tryz.f22.ntmps := ⟨Tryz.f22, _, _, Tryz.func22, rfl, by kernel_rfl, rfl, by kernel_rfl, by kernel_rfl, rfl, by decide, rfl⟩

/-- ironbark/link.Read, its front -/
def cx7 : SC :=
  (.seq (.ops [⟨(some 2), .plain (.alloc [(.str ⟨#[]⟩), (.str ⟨#[]⟩), .nilS, .nilS, .nilS]), [], none⟩,
    ⟨(some 3), .plain (.alloc [(.int .i64 0)]), [], none⟩,
    ⟨(some 4), .plain (.alloc [(.int .i64 0)]), [], none⟩] [])
  (.seq (.seq (.ops [⟨(some 12), .plain .mv, [.tmp 0], none⟩,
    ⟨(some 13), .plain (.len 0), [.tmp 12], none⟩,
    ⟨(some 14), .plain (.bin .gtr), [.tmp 13, .lit (.int .i64 200000)], none⟩] [12, 13])
  (.cond (.tmp 14)
   (.seq (.ops [⟨(some 15), .plain (.build [(.str ⟨#[]⟩), (.str ⟨#[]⟩), .nilS, .nilS, .nilS] []), [], none⟩,
     ⟨none, .plain (.store 5), [.tmp 2, .tmp 15], none⟩,
     ⟨none, .plain (.store 1), [.tmp 3, .lit (.int .i64 0)], none⟩,
     ⟨none, .plain (.store 1), [.tmp 4, .lit (.int .i64 3)], none⟩] [15])
   .ret)
   .skip))
  .skip))
/-- What a round of ironbark/link.Read assigns first. -/
def a7 : SC := (.ops [⟨(some 8), .plain .mv, [.tmp 21], none⟩] [])
/-- A round of ironbark/link.Read. -/
def b7 : SC :=
    (.block 1
     (.seq (.ops [⟨(some 9), .plain .mv, [.lit (.int .i64 0)], none⟩] [])
     (.seq (.block 2
      (.loop
       (.seq (.seq (.draw (.step ⟨(some 22), .plain .mv, [.tmp 9], none⟩
         (.step ⟨(some 23), .plain (.load false 1), [.tmp 6], none⟩
         (.step ⟨(some 24), .plain (.len 1), [.tmp 23], none⟩
         (.step ⟨(some 25), .plain (.bin .lss), [.tmp 22, .tmp 24], none⟩
         (.step ⟨(some 26), .plain .mv, [.tmp 25], none⟩
         (.step ⟨(some 27), .plain (.load false 1), [.tmp 6], (some (26, true))⟩
         (.step ⟨(some 28), .plain .mv, [.tmp 9], (some (26, true))⟩
         (.step ⟨(some 29), .plain (.indexAddr 1), [.tmp 27, .tmp 28], (some (26, true))⟩
         (.step ⟨(some 30), .plain (.load false 1), [.tmp 29], (some (26, true))⟩
         (.step ⟨(some 31), .plain .mv, [.tmp 8], (some (26, true))⟩
         (.step ⟨(some 32), .plain (.indexAddr 1), [.tmp 31, .lit (.int .i64 0)], (some (26, true))⟩
         (.step ⟨(some 33), .plain (.load false 1), [.tmp 32], (some (26, true))⟩
         (.step ⟨(some 34), .plain (.bin .neq), [.tmp 30, .tmp 33], (some (26, true))⟩
         (.step ⟨(some 35), .plain .pick, [.tmp 26, .tmp 34, .lit (.bool false)], none⟩
         .done)))))))))))))) [22, 23, 24, 25, 26, 27, 28, 29, 30, 31, 32, 33, 34])
       (.cond (.tmp 35)
        .skip
        (.exit 2)))
       (.block 3
        (.ops [⟨(some 36), .plain .mv, [.tmp 9], none⟩,
          ⟨(some 37), .plain (.bin .add), [.tmp 36, .lit (.int .i64 1)], none⟩,
          ⟨(some 9), .plain .mv, [.tmp 37], none⟩] [36, 37])))))
     (.seq (.ops [⟨(some 38), .plain .mv, [.tmp 9], none⟩,
       ⟨(some 39), .plain (.load false 1), [.tmp 6], none⟩,
       ⟨(some 40), .plain (.len 1), [.tmp 39], none⟩,
       ⟨(some 41), .plain (.bin .lss), [.tmp 38, .tmp 40], none⟩,
       ⟨(some 42), .plain .mv, [.tmp 41], none⟩,
       ⟨(some 43), .plain .mv, [.tmp 9], (some (42, true))⟩,
       ⟨(some 44), .plain (.load false 1), [.tmp 5], (some (42, true))⟩,
       ⟨(some 45), .plain (.bin .geq), [.tmp 43, .tmp 44], (some (42, true))⟩,
       ⟨(some 46), .plain .pick, [.tmp 42, .tmp 45, .lit (.bool false)], none⟩,
       ⟨(some 47), .plain .mv, [.tmp 46], none⟩,
       ⟨(some 48), .plain (.load false 1), [.tmp 5], (some (47, true))⟩,
       ⟨(some 49), .plain (.load false 1), [.tmp 6], (some (47, true))⟩,
       ⟨(some 50), .plain (.len 1), [.tmp 49], (some (47, true))⟩,
       ⟨(some 51), .plain (.bin .lss), [.tmp 48, .tmp 50], (some (47, true))⟩,
       ⟨(some 52), .plain .pick, [.tmp 47, .tmp 51, .lit (.bool false)], none⟩,
       ⟨(some 53), .plain .mv, [.tmp 52], none⟩,
       ⟨(some 54), .plain .mv, [.tmp 9], (some (53, true))⟩,
       ⟨(some 55), .plain (.bin .gtr), [.tmp 54, .lit (.int .i64 0)], (some (53, true))⟩,
       ⟨(some 56), .plain (.load false 1), [.tmp 5], (some (53, true))⟩,
       ⟨(some 57), .plain (.bin .gtr), [.tmp 56, .lit (.int .i64 0)], (some (53, true))⟩,
       ⟨(some 58), .plain (.eqBool false), [.tmp 55, .tmp 57], (some (53, true))⟩,
       ⟨(some 59), .plain .pick, [.tmp 53, .tmp 58, .lit (.bool false)], none⟩,
       ⟨(some 60), .plain .mv, [.tmp 59], none⟩,
       ⟨(some 61), .plain .mv, [.tmp 8], (some (60, true))⟩,
       ⟨(some 62), .plain (.len 1), [.tmp 61], (some (60, true))⟩,
       ⟨(some 63), .plain (.load false 1), [.tmp 7], (some (60, true))⟩,
       ⟨(some 64), .plain .mv, [.tmp 9], (some (60, true))⟩,
       ⟨(some 65), .plain (.indexAddr 1), [.tmp 63, .tmp 64], (some (60, true))⟩,
       ⟨(some 66), .plain (.load false 1), [.tmp 65], (some (60, true))⟩,
       ⟨(some 67), .plain (.bin .eql), [.tmp 62, .tmp 66], (some (60, true))⟩,
       ⟨(some 68), .plain .pick, [.tmp 60, .tmp 67, .lit (.bool false)], none⟩,
       ⟨(some 69), .call 24, [.tmp 68], none⟩] [38, 39, 40, 41, 42, 43, 44, 45, 46, 47, 48, 49, 50, 51, 52, 53, 54, 55, 56, 57, 58, 59, 60, 61, 62, 63, 64, 65, 66, 67, 68, 69])
     (.seq (.seq (.ops [⟨(some 70), .plain .mv, [.tmp 9], none⟩] [])
     (.block 4
      (.seq (.ops [⟨(some 72), .plain (.bin .eql), [.tmp 70, .lit (.int .i64 0)], none⟩,
        ⟨(some 71), .plain .mv, [.tmp 72], none⟩] [72])
      (.cond (.tmp 71)
       (.ops [⟨(some 73), .plain .mv, [.tmp 8], none⟩,
         ⟨(some 74), .plain (.indexAddr 1), [.tmp 73, .lit (.int .i64 1)], none⟩,
         ⟨(some 75), .plain (.load false 1), [.tmp 74], none⟩,
         ⟨(some 76), .plain (.fieldAddr 0), [.tmp 2], none⟩,
         ⟨none, .plain (.store 1), [.tmp 76, .tmp 75], none⟩] [73, 74, 75, 76])
       (.seq (.ops [⟨(some 78), .plain (.bin .eql), [.tmp 70, .lit (.int .i64 1)], none⟩,
         ⟨(some 77), .plain .mv, [.tmp 78], none⟩] [78])
       (.cond (.tmp 77)
        (.seq (.ops [⟨(some 79), .plain .mv, [.tmp 8], none⟩,
          ⟨(some 80), .plain (.indexAddr 1), [.tmp 79, .lit (.int .i64 1)], none⟩,
          ⟨(some 81), .plain (.load false 1), [.tmp 80], none⟩,
          ⟨(some 82), .plain (.len 0), [.tmp 81], none⟩,
          ⟨(some 83), .plain (.bin .leq), [.tmp 82, .lit (.int .i64 64)], none⟩,
          ⟨(some 84), .plain .mv, [.tmp 83], none⟩,
          ⟨(some 85), .plain (.fieldAddr 1), [.tmp 2], (some (84, true))⟩,
          ⟨(some 86), .plain (.load false 1), [.tmp 85], (some (84, true))⟩,
          ⟨(some 87), .plain (.len 0), [.tmp 86], (some (84, true))⟩,
          ⟨(some 88), .plain (.bin .rem), [.tmp 87, .lit (.int .i64 32)], (some (84, true))⟩,
          ⟨(some 89), .plain (.bin .eql), [.tmp 88, .lit (.int .i64 0)], (some (84, true))⟩,
          ⟨(some 90), .plain .pick, [.tmp 84, .tmp 89, .lit (.bool false)], none⟩,
          ⟨(some 91), .call 24, [.tmp 90], none⟩] [79, 80, 81, 82, 83, 84, 85, 86, 87, 88, 89, 90, 91])
        (.draw (.step ⟨(some 92), .plain (.fieldAddr 1), [.tmp 2], none⟩
          (.step ⟨(some 93), .plain (.load false 1), [.tmp 92], none⟩
          (.step ⟨(some 94), .plain .mv, [.tmp 8], none⟩
          (.step ⟨(some 95), .plain (.indexAddr 1), [.tmp 94, .lit (.int .i64 1)], none⟩
          (.step ⟨(some 96), .plain (.load false 1), [.tmp 95], none⟩
          (.last ⟨(some 97), .call 25, [.tmp 96], none⟩
          (.step ⟨(some 98), .plain (.bin .add), [.tmp 93, .tmp 97], none⟩
          (.step ⟨(some 99), .plain (.fieldAddr 1), [.tmp 2], none⟩
          (.step ⟨none, .plain (.store 1), [.tmp 99, .tmp 98], none⟩
          .done))))))))) [92, 93, 94, 95, 96, 97, 98, 99]))
        (.seq (.ops [⟨(some 101), .plain (.bin .eql), [.tmp 70, .lit (.int .i64 2)], none⟩,
          ⟨(some 100), .plain .mv, [.tmp 101], none⟩] [101])
        (.cond (.tmp 100)
         (.draw (.step ⟨(some 102), .plain (.fieldAddr 2), [.tmp 2], none⟩
           (.step ⟨(some 103), .plain (.load false 1), [.tmp 102], none⟩
           (.step ⟨(some 104), .plain .mv, [.tmp 8], none⟩
           (.step ⟨(some 105), .plain (.indexAddr 1), [.tmp 104, .lit (.int .i64 1)], none⟩
           (.step ⟨(some 106), .plain (.load false 1), [.tmp 105], none⟩
           (.step ⟨(some 107), .plain .mv, [.tmp 8], none⟩
           (.step ⟨(some 108), .plain (.indexAddr 1), [.tmp 107, .lit (.int .i64 2)], none⟩
           (.step ⟨(some 109), .plain (.load false 1), [.tmp 108], none⟩
           (.last ⟨(some 110), .call 26, [.tmp 109], none⟩
           (.step ⟨(some 111), .plain (.build [(.str ⟨#[]⟩), (.int .i64 0)] [(0, 1), (1, 1)]), [.tmp 106, .tmp 110], none⟩
           (.step ⟨(some 112), .plain (.buildRow 65 2 1 [(.str ⟨#[]⟩), (.int .i64 0)] [0]), [.tmp 111], none⟩
           (.step ⟨(some 113), .plain (.append 65 2 24), [.tmp 103, .tmp 112], none⟩
           (.step ⟨(some 114), .plain (.fieldAddr 2), [.tmp 2], none⟩
           (.step ⟨none, .plain (.store 1), [.tmp 114, .tmp 113], none⟩
           .done)))))))))))))) [102, 103, 104, 105, 106, 107, 108, 109, 110, 111, 112, 113, 114])
         (.seq (.ops [⟨(some 116), .plain (.bin .eql), [.tmp 70, .lit (.int .i64 3)], none⟩,
           ⟨(some 115), .plain .mv, [.tmp 116], none⟩] [116])
         (.cond (.tmp 115)
          (.seq (.ops [⟨(some 117), .plain .mv, [.tmp 8], none⟩,
            ⟨(some 118), .plain (.indexAddr 1), [.tmp 117, .lit (.int .i64 1)], none⟩,
            ⟨(some 119), .plain (.load false 1), [.tmp 118], none⟩,
            ⟨(some 120), .call 26, [.tmp 119], none⟩,
            ⟨(some 10), .plain .mv, [.tmp 120], none⟩] [117, 118, 119, 120])
          (.draw (.step ⟨(some 121), .plain (.fieldAddr 3), [.tmp 2], none⟩
            (.step ⟨(some 122), .plain (.load false 1), [.tmp 121], none⟩
            (.step ⟨(some 123), .plain .mv, [.tmp 10], none⟩
            (.step ⟨(some 124), .plain .mv, [.tmp 8], none⟩
            (.step ⟨(some 125), .plain (.indexAddr 1), [.tmp 124, .lit (.int .i64 2)], none⟩
            (.step ⟨(some 126), .plain (.load false 1), [.tmp 125], none⟩
            (.step ⟨(some 127), .plain .mv, [.tmp 8], none⟩
            (.step ⟨(some 128), .plain (.indexAddr 1), [.tmp 127, .lit (.int .i64 3)], none⟩
            (.step ⟨(some 129), .plain (.load false 1), [.tmp 128], none⟩
            (.last ⟨(some 130), .call 26, [.tmp 129], none⟩
            (.step ⟨(some 131), .plain (.build [(.int .i64 0), (.str ⟨#[]⟩), (.int .i64 0)] [(0, 1), (1, 1), (2, 1)]), [.tmp 123, .tmp 126, .tmp 130], none⟩
            (.step ⟨(some 132), .plain (.buildRow 77 3 1 [(.int .i64 0), (.str ⟨#[]⟩), (.int .i64 0)] [0]), [.tmp 131], none⟩
            (.step ⟨(some 133), .plain (.append 77 3 32), [.tmp 122, .tmp 132], none⟩
            (.step ⟨(some 134), .plain (.fieldAddr 3), [.tmp 2], none⟩
            (.step ⟨none, .plain (.store 1), [.tmp 134, .tmp 133], none⟩
            .done))))))))))))))) [121, 122, 123, 124, 125, 126, 127, 128, 129, 130, 131, 132, 133, 134]))
          (.seq (.ops [⟨(some 136), .plain (.bin .eql), [.tmp 70, .lit (.int .i64 4)], none⟩,
            ⟨(some 135), .plain .mv, [.tmp 136], none⟩] [136])
          (.cond (.tmp 135)
           (.seq (.ops [⟨(some 137), .plain .mv, [.tmp 8], none⟩,
             ⟨(some 138), .plain (.indexAddr 1), [.tmp 137, .lit (.int .i64 1)], none⟩,
             ⟨(some 139), .plain (.load false 1), [.tmp 138], none⟩,
             ⟨(some 140), .call 26, [.tmp 139], none⟩,
             ⟨(some 11), .plain .mv, [.tmp 140], none⟩] [137, 138, 139, 140])
           (.draw (.step ⟨(some 141), .plain (.fieldAddr 4), [.tmp 2], none⟩
             (.step ⟨(some 142), .plain (.load false 1), [.tmp 141], none⟩
             (.step ⟨(some 143), .plain .mv, [.tmp 11], none⟩
             (.step ⟨(some 144), .plain .mv, [.tmp 8], none⟩
             (.step ⟨(some 145), .plain (.indexAddr 1), [.tmp 144, .lit (.int .i64 2)], none⟩
             (.step ⟨(some 146), .plain (.load false 1), [.tmp 145], none⟩
             (.last ⟨(some 147), .call 26, [.tmp 146], none⟩
             (.step ⟨(some 148), .plain (.build [(.int .i64 0), (.int .i64 0)] [(0, 1), (1, 1)]), [.tmp 143, .tmp 147], none⟩
             (.step ⟨(some 149), .plain (.buildRow 79 2 1 [(.int .i64 0), (.int .i64 0)] [0]), [.tmp 148], none⟩
             (.step ⟨(some 150), .plain (.append 79 2 16), [.tmp 142, .tmp 149], none⟩
             (.step ⟨(some 151), .plain (.fieldAddr 4), [.tmp 2], none⟩
             (.step ⟨none, .plain (.store 1), [.tmp 151, .tmp 150], none⟩
             .done)))))))))))) [141, 142, 143, 144, 145, 146, 147, 148, 149, 150, 151]))
           .skip))))))))))))
     (.seq (.ops [⟨(some 152), .plain .mv, [.tmp 9], none⟩,
       ⟨(some 153), .plain .max2, [.tmp 152, .lit (.int .i64 1)], none⟩,
       ⟨none, .plain (.store 1), [.tmp 5, .tmp 153], none⟩] [152, 153])
     (.seq (.seq (.ops [⟨(some 154), .plain .mv, [.tmp 9], none⟩,
       ⟨(some 155), .plain (.load false 1), [.tmp 6], none⟩,
       ⟨(some 156), .plain (.len 1), [.tmp 155], none⟩,
       ⟨(some 157), .plain (.bin .sub), [.tmp 156, .lit (.int .i64 1)], none⟩,
       ⟨(some 158), .plain (.bin .eql), [.tmp 154, .tmp 157], none⟩] [154, 155, 156, 157])
     (.cond (.tmp 158)
      (.ops [⟨(some 159), .plain (.load false 1), [.tmp 6], none⟩,
        ⟨(some 160), .plain (.len 1), [.tmp 159], none⟩,
        ⟨none, .plain (.store 1), [.tmp 5, .tmp 160], none⟩] [159, 160])
      .skip))
     (.ops [⟨(some 161), .plain (.load false 1), [.tmp 3], none⟩,
       ⟨(some 162), .plain (.bin .add), [.tmp 161, .lit (.int .i64 1)], none⟩,
       ⟨none, .plain (.store 1), [.tmp 3, .tmp 162], none⟩] [161, 162]))))))))
/-- ironbark/link.Read, behind what it defers -/
def cy7 : SC :=
  (.seq (.ops [⟨(some 5), .plain (.alloc [(.int .i64 0)]), [], none⟩,
    ⟨none, .plain (.store 1), [.tmp 5, .lit (.int .i64 0)], none⟩] [])
  (.seq (.ops [⟨(some 17), .plain (.buildRow 9 1 6 [(.str ⟨#[]⟩)] [0, 1, 2, 3, 4, 5]), [.lit (.str ⟨#[79, 66, 74, 69, 67, 84]⟩), .lit (.str ⟨#[67, 79, 68, 69]⟩), .lit (.str ⟨#[68, 69, 70]⟩), .lit (.str ⟨#[82, 69, 70]⟩), .lit (.str ⟨#[76, 73, 78, 69]⟩), .lit (.str ⟨#[69, 78, 68]⟩)], none⟩,
    ⟨(some 6), .plain (.alloc [.nilS]), [], none⟩,
    ⟨none, .plain (.store 1), [.tmp 6, .tmp 17], none⟩] [17])
  (.seq (.ops [⟨(some 18), .plain (.buildRow 3 1 6 [(.int .i64 0)] [0, 1, 2, 3, 4, 5]), [.lit (.int .i64 2), .lit (.int .i64 2), .lit (.int .i64 3), .lit (.int .i64 4), .lit (.int .i64 3), .lit (.int .i64 1)], none⟩,
    ⟨(some 7), .plain (.alloc [.nilS]), [], none⟩,
    ⟨none, .plain (.store 1), [.tmp 7, .tmp 18], none⟩] [18])
  (.seq (.seq (.ops [⟨(some 19), .plain .mv, [.tmp 0], none⟩,
    ⟨(some 20), .call 23, [.tmp 19], none⟩] [19])
  (.block 0
   (.rangeF (.tmp 20) [21]
    a7
    b7)))
  (.seq (.ops [⟨(some 163), .plain (.load false 1), [.tmp 5], none⟩,
    ⟨(some 164), .plain (.load false 1), [.tmp 6], none⟩,
    ⟨(some 165), .plain (.len 1), [.tmp 164], none⟩,
    ⟨(some 166), .plain (.bin .eql), [.tmp 163, .tmp 165], none⟩,
    ⟨(some 167), .call 24, [.tmp 166], none⟩] [163, 164, 165, 166, 167])
  (.seq (.seq (.ops [⟨(some 168), .plain (.load true 5), [.tmp 2], none⟩,
    ⟨(some 169), .call 27, [.tmp 168], none⟩,
    ⟨(some 170), .plain (.un .not), [.tmp 169], none⟩] [168, 169])
  (.cond (.tmp 170)
   (.seq (.draw (.step ⟨(some 171), .plain (.build [(.str ⟨#[]⟩), (.str ⟨#[]⟩), .nilS, .nilS, .nilS] []), [], none⟩
     (.or (.step ⟨(some 172), .plain (.load false 1), [.tmp 3], none⟩
     (.step ⟨none, .plain (.store 5), [.tmp 2, .tmp 171], none⟩
     (.step ⟨none, .plain (.store 1), [.tmp 3, .tmp 172], none⟩
     (.step ⟨none, .plain (.store 1), [.tmp 4, .lit (.int .i64 1)], none⟩
     .done))))
     (.step ⟨none, .plain (.store 5), [.tmp 2, .tmp 171], none⟩
     (.step ⟨(some 172), .plain (.load false 1), [.tmp 3], none⟩
     (.step ⟨none, .plain (.store 1), [.tmp 3, .tmp 172], none⟩
     (.step ⟨none, .plain (.store 1), [.tmp 4, .lit (.int .i64 1)], none⟩
     .done)))))) [171, 172])
   .ret)
   .skip))
  (.seq (.ops [⟨(some 173), .plain (.load true 5), [.tmp 2], none⟩,
    ⟨none, .plain (.store 5), [.tmp 2, .tmp 173], none⟩,
    ⟨none, .plain (.store 1), [.tmp 3, .lit (.int .i64 0)], none⟩,
    ⟨none, .plain (.store 1), [.tmp 4, .lit (.int .i64 0)], none⟩] [173])
  .ret)))))))
def cr7 : List Res := [(2, some (true, 5)), (3, some (false, 1)), (4, some (false, 1))]
theorem ok7 : FOkE Zk.pg.toProgram Zk.imp 7 cx7 16 22 [.tmp 2, .tmp 4] cy7 cr7 Tryz.f7.ntmps := ⟨Tryz.f7, _, _, _, _, Tryz.func7, rfl, by kernel_rfl, rfl, by kernel_rfl, by kernel_rfl, by kernel_rfl, by kernel_rfl, rfl, by decide, rfl⟩

end Go.Pm

/- ZkR1: contracts: must; the lines of a text. -/
namespace Go.Pm
open Go Go.Proofs
attribute [-simp] List.getElem?_map Mem.obj Mem.put

/-- What a bad line panics with. -/
abbrev badV : AV := .iface 67 (.agg [])

theorem postP_norm {rs : List Res} {R : AOut → Prop} {e : Env} {m : Mem} : postP rs R .norm e m = postP rs R .ret e m := rfl
theorem postA_normR {rs : List Res} {R : AOut → Mem → Prop} {e : Env} {m : Mem} : postA rs R .norm e m = postA rs R .ret e m := rfl

theorem call24 {b : Bool} : PCalls Zk.pg 24 [.bool b] fun out => out = if b then .ret (.tuple []) else .panic badV := by
  refine ok24.pcalls (by simp) ?_
  cases b
  · simp [c24]
    exact ⟨67, .agg [], ⟨rfl, rfl⟩, rfl⟩
  · simp [c24, postP_norm, cr24]

theorem xcall_must {imp : List FuncId} {b : Bool} {dst : Option Nat} {l : List SOp} {d : List Nat} {fs : List Fr} {Q : Post} {e : Env} {m : Mem} (hk : b = true → xops Zk.pg imp l d fs Q (e.put dst (.tuple [])) m) (hp : b = false → lv Zk.pg imp (.panic badV) fs Q e m) : xcall Zk.pg imp 24 [.bool b] dst l d fs Q e m := by
  refine xcall_r ((call24 (b := b)).acalls (m := m) (xs := [.bool b]) rfl) ?_ ?_
  · rintro v m' ⟨h1, rfl⟩
    cases b
    · cases h1
    · injection h1 with h1; subst h1; exact hk rfl
  · rintro v m' ⟨h1, rfl⟩
    cases b
    · injection h1 with h1; subst h1; exact hp rfl
    · cases h1

/-- A part of a line: not empty, of printable signs. -/
def okPart (x : ByteArray) : Bool := !(eqS x ⟨#[]⟩) && x.data.toList.all fun b => decide (33 ≤ b.toNat) && decide (b.toNat ≤ 126)

def nl : ByteArray := ⟨#[10]⟩
def sp : ByteArray := ⟨#[32]⟩
def partsOf (s : ByteArray) : List ByteArray := Lib.splitB sp 0 (Lib.countB s sp) s
abbrev cutL (t : ByteArray) : ByteArray := ⟨(Lib.cut t.data.toList nl.data.toList).1.toArray⟩
abbrev cutR (t : ByteArray) : ByteArray := ⟨(Lib.cut t.data.toList nl.data.toList).2.1.toArray⟩
abbrev cutB (t : ByteArray) : Bool := (Lib.cut t.data.toList nl.data.toList).2.2

/-- The next line's parts, and what is behind it; none: no line. -/
def nextLine (t : ByteArray) : Option (List ByteArray × ByteArray) :=
  if cutB t then (if (partsOf (cutL t)).all okPart then some (partsOf (cutL t), cutR t) else none) else none

theorem cut_less (t : ByteArray) (h : cutB t = true) : (cutL t).size < t.size ∧ (cutR t).size < t.size := by
  rcases Lib.indexB_cases t nl with h1 | ⟨i, h1, hroom⟩
  · have := (Lib.cutB_miss t nl h1).2.2
    unfold cutB at h
    rw [this] at h; cases h
  · obtain ⟨e1, e2, _⟩ := Lib.cutB_hit t nl i h1
    have hn : nl.size = 1 := rfl
    rw [hn] at e2 hroom
    unfold cutL cutR
    rw [e1, e2, ByteArray.size_extract, ByteArray.size_extract]
    omega

def lAV (l : List ByteArray) : AV := .list true 1 (l.map fun x => [.str x])

theorem call76' {s : ByteArray} (hs : s.size < 4294967281) : PCalls Zk.pg 76 [.str s, .str sp] fun out => out = .ret (.list true 1 ((partsOf s).map fun x => [.str x])) := call76 hs (by decide)
theorem parts_len (s : ByteArray) : (partsOf s).length ≤ s.size + 1 := by
  have h1 : 1 ≤ sp.size := by decide
  have := Lib.splitB_all sp h1 0 (Lib.countB s sp) s rfl
  have := Lib.countB_le sp h1 s.size s (Nat.le_refl _)
  unfold partsOf
  omega
theorem split_le (sep : ByteArray) : ∀ (n : Nat) (s x : ByteArray), x ∈ Lib.splitB sep 0 n s → x.size ≤ s.size
  | 0, s, x, h => by simp [Lib.splitB] at h; subst h; exact Nat.le_refl _
  | n + 1, s, x, h => by
    simp only [Lib.splitB] at h
    split at h
    · simp at h; subst h; exact Nat.le_refl _
    · rcases List.mem_cons.1 h with rfl | h
      · rw [ByteArray.size_extract]; omega
      · have := split_le sep n _ x h
        rw [ByteArray.size_extract] at this; omega
theorem part_le {s x : ByteArray} (h : x ∈ partsOf s) : x.size ≤ s.size := split_le _ _ _ _ h

/-- The signs of a part, from the first on. -/
def okSigns (x : ByteArray) (k : Nat) : Bool := (x.data.toList.take k).all fun b => decide (33 ≤ b.toNat) && decide (b.toNat ≤ 126)

theorem signs_succ {x : ByteArray} {k : Nat} (h : k < x.size) : okSigns x (k + 1) = (okSigns x k && (leI 33 (byteAt x k).toNat && leI (byteAt x k).toNat 126)) := by
  have hlen : k < x.data.toList.length := by simpa using h
  unfold okSigns
  rw [List.take_add_one, List.all_append, List.getElem?_eq_getElem hlen]
  have e : x.data.toList[k] = byteAt x k := by
    unfold byteAt
    rw [List.getD, List.getElem?_eq_getElem hlen]; rfl
  rw [e]
  simp only [Option.toList_some, List.all_cons, List.all_nil, Bool.and_true]
  congr 1
  have e1 : leI 33 (byteAt x k).toNat = decide (33 ≤ (byteAt x k).toNat) := by
    unfold leI
    exact decide_eq_decide.2 (by omega)
  have e2 : leI (byteAt x k).toNat 126 = decide ((byteAt x k).toNat ≤ 126) := by
    unfold leI
    exact decide_eq_decide.2 (by omega)
  rw [e1, e2]
theorem signs_all {x : ByteArray} {k : Nat} (h : x.size ≤ k) : okSigns x k = x.data.toList.all fun b => decide (33 ≤ b.toNat) && decide (b.toNat ≤ 126) := by
  unfold okSigns
  rw [List.take_of_length_le (by simpa using h)]
theorem signs_le {x : ByteArray} {k : Nat} (h : okSigns x x.size = true) : okSigns x k = true := by
  rw [signs_all (Nat.le_refl _)] at h
  unfold okSigns
  exact List.all_eq_true.2 fun b hb => List.all_eq_true.1 h b (List.mem_of_mem_take hb)

/-- (link.lines's iterator.) -/
theorem call74 {pos gen p g : Nat} {Inv : ByteArray → Mem → Prop} {X : Mem → Prop} {Y : AV → Mem → Prop} {t0 : ByteArray} {m0 : Mem}
    (hY : ∀ t m l rest, Inv t m → nextLine t = some (l, rest) → YCalls Zk.pg pos gen [lAV l] m fun out m' => (out = .ret (.bool true) ∧ m'.obj p g = some (.cells [.str t]) ∧ Inv rest (m'.put p g (.cells [.str rest]))) ∨ (out = .ret (.bool false) ∧ X m') ∨ ∃ v, out = .panic v ∧ Y v m')
    (hc : ∀ t m, Inv t m → m.obj p g = some (.cells [.str t]) ∧ t.size < 4294967281)
    (h0 : Inv t0 m0) : ACalls Zk.pg 74 [.yield pos gen, .ptr p g 0] m0 fun out m' => (out = .ret (.tuple []) ∧ ((∃ t, eqS t ⟨#[]⟩ = true ∧ Inv t m') ∨ X m')) ∨ ∃ v, out = .panic v ∧ (Y v m' ∨ (v = badV ∧ ∃ t, eqS t ⟨#[]⟩ = false ∧ nextLine t = none ∧ Inv t m')) := by
  refine ok74.acalls (by simp) ?_
  simp [c74]
  refine wpS_loop (ι := ByteArray × Mem) (fun _ => [(0, .yield pos gen), (1, .ptr p g 0)]) (fun s => s.2) (fun s => s.1.size) (fun s => Inv s.1 s.2) (t0, m0) h0 (Env.le_of (by simp)) rfl ?_
  rintro ⟨t, m⟩ hI
  simp only at hI
  obtain ⟨hobj, hsz⟩ := hc t m hI
  simp [hobj]
  refine br_cond rfl (fun h1 => ?_) (fun h1 => ?_)
  · simp
    have h1' : eqS t ⟨#[]⟩ = false := by simpa using h1
    simp [hobj]
    refine xcall_p (call75 (t := nl) hsz) rfl ?_
    simp
    refine xcall_must (b := cutB t) (fun h2 => ?_) (fun h2 => ?_)
    · have hless := cut_less t h2
      simp
      obtain ⟨l, hl⟩ : ∃ l, l = partsOf (cutL t) := ⟨_, rfl⟩
      have h76 := call76' (s := cutL t) (by omega)
      have hll := parts_len (cutL t)
      rw [← hl] at h76 hll
      refine xcall_p h76 rfl ?_
      simp
      refine wpS_loop (ι := Nat) (fun i => [(0, .yield pos gen), (1, .ptr p g 0), (4, .str (cutR t)), (6, .list true 1 (l.map fun x => [.str x])), (22, .list true 1 (l.map fun x => [.str x])), (23, .int .i64 l.length), (24, .int .i64 i)]) (fun _ => m) (fun i => l.length - i)
        (fun i => i ≤ l.length ∧ (l.take i).all okPart = true) 0 ⟨Nat.zero_le _, rfl⟩ (Env.le_of (by simp)) rfl ?_
      rintro i ⟨hi, hall⟩
      have hw : IntKind.i64.wrap (i + 1) = i + 1 := wrap64 (by omega) (by omega)
      simp
      refine br_cond rfl (fun h3 => ?_) (fun h3 => ?_)
      · have hlt : i < l.length := by have := ltI_t.1 h3; omega
        obtain ⟨x, hx⟩ : ∃ x, x = ix l i := ⟨_, rfl⟩
        simp [h3, idxM, ← hx]
        have hmem : x ∈ l := by rw [hx]; exact ix_mem hlt
        have hxs : x.size ≤ (cutL t).size := part_le (by rw [← hl]; exact hmem)
        have bad : okPart x = false → nextLine t = none := fun hb => by
          have : (partsOf (cutL t)).all okPart = false := by
            rw [← hl]
            exact List.all_eq_false.2 ⟨x, hmem, by simp [hb]⟩
          simp [nextLine, h2, this]
        refine xcall_must (fun h4 => ?_) (fun h4 => ?_)
        · simp
          refine wpS_loop (ι := Nat) (fun k => [(0, .yield pos gen), (1, .ptr p g 0), (4, .str (cutR t)), (6, .list true 1 (l.map fun x => [.str x])), (8, .str x), (22, .list true 1 (l.map fun x => [.str x])), (23, .int .i64 l.length), (24, .int .i64 i), (32, .int .i64 x.size), (33, .int .i64 k)]) (fun _ => m) (fun k => x.size - k)
            (fun k => k ≤ x.size ∧ okSigns x k = true) 0 ⟨Nat.zero_le _, rfl⟩ (Env.le_of (by simp)) rfl ?_
          rintro k ⟨hk, hok⟩
          simp
          refine br_cond rfl (fun h5 => ?_) (fun h5 => ?_)
          · have hlk : k < x.size := by have := ltI_t.1 h5; omega
            have hwk : IntKind.i64.wrap (k + 1) = k + 1 := wrap64 (by omega) (by omega)
            simp [h5, idxS]
            have key : ∀ b : Bool, (b = (leI 33 (byteAt x k).toNat && leI (byteAt x k).toNat 126)) → (b = true → okSigns x (k + 1) = true) ∧ (b = false → okPart x = false) := by
              intro b hb
              have e := signs_succ hlk
              rw [hok, ← hb, Bool.true_and] at e
              refine ⟨fun h => by rw [e, h], fun h => ?_⟩
              cases ho : okPart x with
              | false => rfl
              | true =>
                unfold okPart at ho
                rw [Bool.and_eq_true] at ho
                have := signs_le (k := k + 1) ((signs_all (Nat.le_refl _)).trans ho.2)
                rw [e, h] at this; cases this
            refine br_guard_t rfl (fun h6 => ?_) (fun h6 => ?_)
            · simp [h5, idxS, h6]
              refine xcall_must (fun h7 => ?_) (fun h7 => ?_)
              · simp [hwk]
                exact ⟨k + 1, ⟨by omega, (key _ rfl).1 (by simp [h6, h7])⟩, by omega, Env.le_of (by simp), Mem.le_refl _⟩
              · simp [postA_panic]
                exact .inr ⟨t, h1', bad ((key _ rfl).2 (by simp [h7])), hI⟩
            · simp [h6]
              refine xcall_must (fun h7 => ?_) (fun h7 => ?_)
              · cases h7
              · simp [postA_panic]
                exact .inr ⟨t, h1', bad ((key _ rfl).2 (by simp [h6])), hI⟩
          · simp [hw]
            have hxk : okPart x = true := by
              have hk' : x.size ≤ k := by have := ltI_f.1 h5; omega
              unfold okPart
              rw [← signs_all hk', hok, h4]; rfl
            refine ⟨i + 1, ⟨by omega, ?_⟩, by omega, Env.le_of (by simp), Mem.le_refl _⟩
            intro y hy
            rw [List.take_add_one, idx h3, ← hx] at hy
            simp only [Option.toList_some, List.mem_append, List.mem_singleton] at hy
            rcases hy with hy | rfl
            · exact List.all_eq_true.1 hall y hy
            · exact hxk
        · simp [postA_panic]
          exact .inr ⟨t, h1', bad (by simp [okPart, h4]), hI⟩
      · have hnext : nextLine t = some (l, cutR t) := by
          have hlen : l.length ≤ i := by have := ltI_f.1 h3; omega
          rw [List.take_of_length_le hlen] at hall
          simp [nextLine, h2, ← hl, hall]
        simp
        refine ⟨pos, gen, _, ⟨⟨rfl, rfl⟩, rfl⟩, ycall_r (hY t m l (cutR t) hI hnext) ?_ ?_⟩
        · rintro v m' (⟨hv, ho, hI'⟩ | ⟨hv, hX⟩ | ⟨v', hv, _⟩)
          · injection hv with hv; subst hv
            simp [ho]
            exact ⟨cutR t, _, hI', hless.2, Env.le_of (by simp), Mem.le_refl _⟩
          · injection hv with hv; subst hv
            simp [postA_ret, cr74]
            exact .inr hX
          · cases hv
        · rintro v m' (⟨hv, _⟩ | ⟨hv, _⟩ | ⟨v', hv, hYv⟩)
          · cases hv
          · cases hv
          · injection hv with hv; subst hv
            simp [postA_panic]
            exact .inl hYv
    · simp [postA_panic]
      exact .inr ⟨t, h1', by simp [nextLine, h2], hI⟩
  · have h1' : eqS t ⟨#[]⟩ = true := by simpa using h1
    simp [postA_normR, postA_ret, cr74]
    exact .inl ⟨t, h1', hI⟩

end Go.Pm

/- ZkR2: contracts: lines; numbers. -/
namespace Go.Pm
open Go Go.Proofs
attribute [-simp] List.getElem?_map

/-- link.lines: an iterator over a text of its own. -/
theorem call23 {t : ByteArray} {m : Mem} : ACalls Zk.pg 23 [.str t] m fun out m' => out = .ret (.fn 74 [.ptr m.store.length m.next 0]) ∧ m' = m.new (.cells [.str t]) := by
  refine ok23.acalls (by simp) ?_
  simp [c23, cr23, postA_ret, Mem.new]

def trimF (s : ByteArray) : ByteArray := ⟨(Lib.trimPrefix s.data.toList [45]).toArray⟩
def itoaF (n : Int) : ByteArray := ⟨(Lib.itoa n).toArray⟩
theorem call79' {s : ByteArray} : PCalls Zk.pg 79 [.str s, .str ⟨#[45]⟩] fun out => out = .ret (.str (trimF s)) := call79
theorem call63' {n : Int} (h0 : -9223372036854775808 ≤ n) (h1 : n ≤ 9223372036854775807) : PCalls Zk.pg 63 [.int .i64 n] fun out => out = .ret (.str (itoaF n)) := call63 h0 h1

/-- A number as it is written: what it is. -/
def numT (s : ByteArray) : Option Int :=
  if (atoiN s).2 && (leI (trimF s).size 10 && eqS (itoaF (atoiN s).1) s) then some (atoiN s).1 else none

theorem atoi_small {s : ByteArray} (h : (atoiN s).2 = true) : -9223372036854775808 ≤ (atoiN s).1 ∧ (atoiN s).1 ≤ 9223372036854775807 := by
  unfold atoiN at h ⊢
  rcases ha : Lib.atoiAll s.data.toList with v | _ | _
  rotate_left
  · rw [ha] at h; cases h
  · rw [ha] at h; cases h
  · simp only
    unfold Lib.atoiAll at ha
    split at ha
    · cases ha
    · simp only at ha
      split at ha
      · cases ha
      · cases ha
      · rename_i u hu
        split at ha
        · cases ha
        · rename_i h1
          split at ha
          · cases ha
          · rename_i h2
            injection ha with ha
            subst ha
            split <;> rename_i h3
            · have : ¬ 9223372036854775808 < u := fun h => h2 ⟨h3, h⟩
              omega
            · have : ¬ 9223372036854775808 ≤ u := fun h => h1 ⟨h3, h⟩
              omega

theorem call26 {s : ByteArray} (hs : s.size ≤ 281474976710656) : PCalls Zk.pg 26 [.str s] fun out => out = match numT s with | some n => .ret (.int .i64 n) | none => .panic badV := by
  refine ok26.pcalls (by simp) ?_
  have h78 := call78 hs
  obtain ⟨n, hn⟩ : ∃ n, n = (atoiN s).1 := ⟨_, rfl⟩
  obtain ⟨b, hb⟩ : ∃ b, b = (atoiN s).2 := ⟨_, rfl⟩
  have hsm := atoi_small (s := s)
  have hnum : numT s = if b && (leI (trimF s).size 10 && eqS (itoaF n) s) then some n else none := by rw [hn, hb]; rfl
  rw [hnum]
  rw [← hn, ← hb] at h78 hsm
  simp [c26]
  refine xcall_p h78 rfl ?_
  cases b with
  | false =>
    simp [atoiE]
    refine xcall_must (fun h7 => ?_) (fun h7 => ?_)
    · cases h7
    · simp [postP_panic]
  | true =>
    obtain ⟨k1, k2⟩ := hsm rfl
    simp [atoiE]
    refine xcall_p call79' rfl ?_
    simp
    refine br_guard_t rfl (fun h6 => ?_) (fun h6 => ?_)
    · simp [h6]
      refine xcall_p (call63' k1 k2) rfl ?_
      simp
      refine xcall_must (fun h7 => ?_) (fun h7 => ?_)
      · simp [postP_ret, cr26, h7]
      · simp [postP_panic, h7]
    · simp [h6]
      refine xcall_must (fun h7 => ?_) (fun h7 => ?_)
      · cases h7
      · simp [postP_panic]
end Go.Pm

/- ZkR3: contracts: bytes out of hexadecimal figures. -/
namespace Go.Pm
open Go Go.Proofs
attribute [-simp] List.getElem?_map

def figs : ByteArray := ⟨#[48, 49, 50, 51, 52, 53, 54, 55, 56, 57, 65, 66, 67, 68, 69, 70]⟩
def figI (b : UInt8) : Int := Lib.indexByte figs.data.toList b
theorem call77' {b : UInt8} : PCalls Zk.pg 77 [.str figs, .int .u8 b.toNat] fun out => out = .ret (.int .i64 (figI b)) := by
  have := call77 (s := figs) (c := b.toNat)
  have e : ((b.toNat : Int)).toNat.toUInt8 = b := by simp
  rw [e] at this
  exact this

/-- The byte of two figures. -/
def pairV (a b : Int) : Int := IntKind.u8.wrap (IntKind.i64.wrap ↑((IntKind.i64.wrap (a * 2 ^ min 4 IntKind.i64.bits) % 2 ^ IntKind.i64.bits).toNat ||| (b % 2 ^ IntKind.i64.bits).toNat))
def pairB (s : ByteArray) (k : Nat) : Int := pairV (figI (byteAt s (2 * k))) (figI (byteAt s (2 * k + 1)))
theorem mapM_bytes (f : Nat → Int) : ∀ l : List Nat, (l.map fun k => [AV.int .u8 (f k)]).mapM byteOf = some (l.map fun k => UInt8.ofNat (f k).toNat)
  | [] => rfl
  | k :: l => by
    have ih := mapM_bytes f l
    simp only [List.map_cons, List.mapM_cons, byteOf, ih]; rfl
theorem app_byte {L : List (List AV)} {x : AV} {k g nx : Nat} (hL : L.length = k) (hk : k ≤ 140737488355327) : appendA 5 1 1 ⟨[(g, .row 5 1 L), (nx, .row 5 1 [[x]])], nx + 1⟩ (.row 0 g 1 0 k) (.row 1 nx 1 0 1) = some (.row 0 (nx + 1) 1 0 (k + 1), ⟨[(nx + 1, .row 5 1 (L ++ [[x]])), (nx, .row 5 1 [[x]])], nx + 2⟩) := by
  subst hL
  have h1 : (L.length + 1) * 1 ≤ 140737488355328 := by omega
  have h2 : L.length + 1 ≤ 9223372036854775807 := by omega
  simp [appendA, appendN, elsOf, Mem.obj, Mem.turn, h1, h2]
  omega
def okPair (s : ByteArray) (k : Nat) : Bool := leI 0 (figI (byteAt s (2 * k))) && leI 0 (figI (byteAt s (2 * k + 1)))
/-- The bytes that hexadecimal figures say. -/
def bytesT (s : ByteArray) : Option ByteArray :=
  if eqI (Int.tmod s.size 2) 0 && (List.range (s.size / 2)).all (okPair s) then some ⟨((List.range (s.size / 2)).map fun k => UInt8.ofNat (pairB s k).toNat).toArray⟩ else none

theorem call25 {s : ByteArray} (hs : s.size ≤ 281474976710656) : PCalls Zk.pg 25 [.str s] fun out => out = match bytesT s with | some n => .ret (.str n) | none => .panic badV := by
  refine ok25.pcalls (by simp) ?_
  simp [c25]
  refine xcall_must (fun h1 => ?_) (fun h1 => ?_)
  · have hev : s.size = 2 * (s.size / 2) := by
      have h0 := eqI_t.1 h1
      rw [Int.tmod_eq_emod_of_nonneg (by omega)] at h0
      omega
    simp
    refine wpS_loopS (ι := Nat × Nat × Nat) (fun g => [(0, .str s), (3, .row 0 g.2.1 1 0 g.1), (4, .int .i64 (2 * g.1 : Nat))]) (fun g => ⟨[(g.2.1, .row 5 1 ((List.range g.1).map fun k => [.int .u8 (pairB s k)]))], g.2.2⟩) (fun g => s.size / 2 - g.1)
      (fun g => g.1 ≤ s.size / 2 ∧ (List.range g.1).all (okPair s) = true) (0, 0, 1) ⟨Nat.zero_le _, rfl⟩ (Sim.trans (Sim.of_le (Env.le_of (by simp)) (Mem.le_of rfl (by simp))) (Sim.nil_env 3 5 (sz := 1) (by decide) (by simp))) ?_
    rintro ⟨k, g, nx⟩ ⟨hk, hall⟩
    simp only at hk hall
    obtain ⟨p, hp⟩ : ∃ p, p = 2 * k := ⟨_, rfl⟩
    simp only [← hp]
    simp
    refine br_cond rfl (fun h3 => ?_) (fun h3 => ?_)
    · have hlt : p < s.size := by have := ltI_t.1 h3; omega
      obtain ⟨q, hq⟩ : ∃ q, q = p + 1 := ⟨_, rfl⟩
      have hwq : IntKind.i64.wrap (p + 1) = (q : Int) := by rw [wrap64 (by omega) (by omega)]; omega
      have hwp : IntKind.i64.wrap (p + 2) = ((p + 2 : Nat) : Int) := by rw [wrap64 (by omega) (by omega)]; omega
      have hlq : ltI (q : Int) s.size = true := ltN (by omega)
      simp [idxS h3, idxS hlq, hwq]
      refine xdcall_p rfl (call77' (b := byteAt s p)) rfl ?_
      simp [idxS h3, idxS hlq, hwq]
      refine xdcall_p rfl (call77' (b := byteAt s q)) rfl ?_
      simp
      have hpr : okPair s k = (leI 0 (figI (byteAt s p)) && leI 0 (figI (byteAt s q))) := by rw [okPair, hp, hq, hp]
      have hpb : pairB s k = pairV (figI (byteAt s p)) (figI (byteAt s q)) := by rw [pairB, hp, hq, hp]
      have hwp' : IntKind.i64.wrap (p + 2) = 2 * ((k : Int) + 1) := by rw [hwp]; omega
      have hlk : ((List.range k).map fun k => [AV.int .u8 (pairB s k)]).length = k := by simp
      have bad : okPair s k = false → bytesT s = none := fun hb => by
        have : (List.range (s.size / 2)).all (okPair s) = false := List.all_eq_false.2 ⟨k, List.mem_range.2 (by omega), by simp [hb]⟩
        simp [bytesT, this]
      refine br_guard_t rfl (fun h6 => ?_) (fun h6 => ?_)
      · simp [h6]
        refine xcall_must (fun h7 => ?_) (fun h7 => ?_)
        · simp
          rw [app_byte hlk (by omega)]
          simp [hwp']
          refine ⟨k + 1, ⟨by omega, ?_⟩, by omega, nx + 1, nx + 2, Sim.of_le (Env.le_of (by simp)) (Mem.le_of rfl ?_)⟩
          · intro y hy
            by_cases hyk : y = k
            · subst hyk; rw [hpr, h6, h7]; rfl
            · exact List.all_eq_true.1 hall y (List.mem_range.2 (by omega))
          · simp [List.range_succ, hpb, pairV]
        · have hb := bad (by rw [hpr, h7]; simp)
          simp [postP_panic, hb]
      · simp [h6]
        refine xcall_must (fun h7 => ?_) (fun h7 => ?_)
        · cases h7
        · have hb := bad (by rw [hpr, h6]; rfl)
          simp [postP_panic, hb]
    · have hke : k = s.size / 2 := by have := ltI_f.1 h3; omega
      simp
      rw [List.take_of_length_le (by simp), mapM_bytes]
      have hb : bytesT s = some ⟨((List.range k).map fun k => UInt8.ofNat (pairB s k).toNat).toArray⟩ := by
        rw [hke] at hall
        rw [bytesT, h1, hall, hke]; rfl
      simp [postP_ret, cr25, hb]
  · simp [postP_panic, bytesT, h1]
end Go.Pm

/- ZkR4: contracts: what link.Read defers. -/
namespace Go.Pm
open Go Go.Proofs
attribute [-simp] List.getElem?_map Mem.obj Mem.put

def noDeck : List AV := [.str ⟨#[]⟩, .str ⟨#[]⟩, .nilS, .nilS, .nilS]

theorem call22n {x y : AV} {m : Mem} : DCalls Zk.pg 22 [x, y] none m fun m' => m' = m := by
  refine ok22.dcalls (by simp) ?_
  simp [c22]

theorem over_all {vs ws : List AV} (h : vs.length = ws.length) : over vs 0 ws = ws := by
  simp [over, ← h]

/-- A bad line is caught: no object, an error. -/
theorem call22b {p g p2 g2 p3 g3 : Nat} {m : Mem} {vs : List AV} {v : AV} {o3 : AObj} (ho : m.obj p g = some (.cells vs)) (hvs : vs.length = 5) (he : m.obj p2 g2 = some (.cells [v])) (h3 : m.obj p3 g3 = some o3) (hne : p2 ≠ p) (hn1 : p3 ≠ p) (hn2 : p3 ≠ p2) :
    DCalls Zk.pg 22 [.ptr p g 0, .ptr p2 g2 0] (some badV) m fun m' => m'.obj p g = some (.cells noDeck) ∧ m'.obj p2 g2 = some (.cells [.int .i64 2]) ∧ m'.obj p3 g3 = some o3 := by
  refine ok22.dcalls (by simp) ?_
  simp [c22, postR_norm]
  obtain ⟨M, hM⟩ : ∃ M : Mem, M = ⟨m.store ++ [(m.next, .cells [])], m.next + 1⟩ := ⟨_, rfl⟩
  have hnew : M = m.new (.cells []) := hM
  have k0 : M.obj m.store.length m.next = some (.cells []) := by rw [hM]; simp [Mem.obj]
  have k1 : M.obj p g = some (.cells vs) := by rw [hnew]; exact obj_new ho
  have k2 : M.obj p2 g2 = some (.cells [v]) := by rw [hnew]; exact obj_new he
  have k3 : M.obj p3 g3 = some o3 := by rw [hnew]; exact obj_new h3
  rw [← hM]
  have ks : M.put m.store.length m.next (.cells []) = M := Mem.put_same (Mem.obj_some k0)
  have q1 : ∀ (M : Mem) (a b c d : Nat) (o o' : AObj), c ≠ a → M.obj c d = some o' → (M.put a b o).obj c d = some o' := by
    intro M a b c d o o' hne h
    unfold Mem.obj Mem.put at *
    simp only [List.getElem?_set_ne (Ne.symm hne)]
    exact h
  have q2 : ∀ (M : Mem) (a b : Nat) (o o' : AObj), M.obj a b = some o' → (M.put a b o).obj a b = some o := by
    intro M a b o o' h
    have hs := Mem.obj_some h
    have hlt := (List.getElem?_eq_some_iff.1 hs).1
    unfold Mem.obj Mem.put
    simp [hlt]
  have hd : List.drop 5 vs = [] := List.drop_of_length_le (by omega)
  have h5 : 5 ≤ vs.length := by omega
  obtain ⟨M2, hM2⟩ : ∃ M2, M2 = M.put p g (.cells [.str ⟨#[]⟩, .str ⟨#[]⟩, .nilS, .nilS, .nilS]) := ⟨_, rfl⟩
  have r1 : M2.obj p g = some (.cells noDeck) := by rw [hM2]; exact q2 _ _ _ _ _ k1
  have r2 : M2.obj p2 g2 = some (.cells [v]) := by rw [hM2]; exact q1 _ _ _ _ _ _ _ hne k2
  have r3 : M2.obj p3 g3 = some o3 := by rw [hM2]; exact q1 _ _ _ _ _ _ _ hn1 k3
  simp [k0, ks, k1, hd, h5, ← hM2, r2]
  exact ⟨q1 _ _ _ _ _ _ _ (Ne.symm hne) r1, q2 _ _ _ _ _ r2, q1 _ _ _ _ _ _ _ hn2 r3⟩
end Go.Pm

/- ZkS2: code, resolved. Written by gen.py out of what ShowSC.lean printed. -/
namespace Go.Pm
open Go Go.Proofs

/-- ironbark/ironbarkref34.Valid -/
def c29 : SC :=
  (.seq (.ops [⟨(some 1), .plain (.box 5), [.tmp 0], none⟩,
    ⟨(some 2), .plain .mv, [.lit (.bool false)], none⟩] [])
  (.seq (.ops [⟨(some 11), .plain (.fieldAddr 1), [.tmp 1], none⟩,
    ⟨(some 12), .plain (.load false 1), [.tmp 11], none⟩,
    ⟨(some 13), .plain (.len 0), [.tmp 12], none⟩,
    ⟨(some 3), .plain .mv, [.tmp 13], none⟩] [11, 12, 13])
  (.seq (.seq (.ops [⟨(some 14), .plain (.fieldAddr 0), [.tmp 1], none⟩,
    ⟨(some 15), .plain (.load false 1), [.tmp 14], none⟩,
    ⟨(some 16), .call 85, [.tmp 15], none⟩,
    ⟨(some 17), .plain (.un .not), [.tmp 16], none⟩,
    ⟨(some 18), .plain .mv, [.tmp 17], none⟩,
    ⟨(some 19), .plain .mv, [.tmp 3], (some (18, false))⟩,
    ⟨(some 20), .plain (.bin .gtr), [.tmp 19, .lit (.int .i64 20000)], (some (18, false))⟩,
    ⟨(some 21), .plain .pick, [.tmp 18, .lit (.bool true), .tmp 20], none⟩,
    ⟨(some 22), .plain .mv, [.tmp 21], none⟩,
    ⟨(some 23), .plain .mv, [.tmp 3], (some (22, false))⟩,
    ⟨(some 24), .plain (.bin .rem), [.tmp 23, .lit (.int .i64 2)], (some (22, false))⟩,
    ⟨(some 25), .plain (.bin .neq), [.tmp 24, .lit (.int .i64 0)], (some (22, false))⟩,
    ⟨(some 26), .plain .pick, [.tmp 22, .lit (.bool true), .tmp 25], none⟩] [14, 15, 16, 17, 18, 19, 20, 21, 22, 23, 24, 25])
  (.cond (.tmp 26)
   (.seq (.ops [⟨(some 2), .plain .mv, [.lit (.bool false)], none⟩] [])
   .ret)
   .skip))
  (.seq (.seq (.ops [⟨(some 4), .plain .mv, [.lit (.int .i64 0)], none⟩] [])
  (.block 0
   (.loop
    (.seq (.seq (.ops [⟨(some 27), .plain .mv, [.tmp 4], none⟩,
      ⟨(some 28), .plain (.fieldAddr 2), [.tmp 1], none⟩,
      ⟨(some 29), .plain (.load false 1), [.tmp 28], none⟩,
      ⟨(some 30), .plain (.len 1), [.tmp 29], none⟩,
      ⟨(some 31), .plain (.bin .lss), [.tmp 27, .tmp 30], none⟩] [27, 28, 29, 30])
    (.cond (.tmp 31)
     .skip
     (.exit 0)))
    (.seq (.block 1
     (.seq (.seq (.ops [⟨(some 34), .plain (.fieldAddr 2), [.tmp 1], none⟩,
       ⟨(some 35), .plain (.load false 1), [.tmp 34], none⟩,
       ⟨(some 36), .plain .mv, [.tmp 4], none⟩,
       ⟨(some 37), .plain (.indexAddr 2), [.tmp 35, .tmp 36], none⟩,
       ⟨(some 38), .plain (.fieldAddr 0), [.tmp 37], none⟩,
       ⟨(some 39), .plain (.load false 1), [.tmp 38], none⟩,
       ⟨(some 40), .call 85, [.tmp 39], none⟩,
       ⟨(some 41), .plain (.un .not), [.tmp 40], none⟩,
       ⟨(some 42), .plain .mv, [.tmp 41], none⟩,
       ⟨(some 43), .plain (.fieldAddr 2), [.tmp 1], (some (42, false))⟩,
       ⟨(some 44), .plain (.load false 1), [.tmp 43], (some (42, false))⟩,
       ⟨(some 45), .plain .mv, [.tmp 4], (some (42, false))⟩,
       ⟨(some 46), .plain (.indexAddr 2), [.tmp 44, .tmp 45], (some (42, false))⟩,
       ⟨(some 47), .plain (.fieldAddr 1), [.tmp 46], (some (42, false))⟩,
       ⟨(some 48), .plain (.load false 1), [.tmp 47], (some (42, false))⟩,
       ⟨(some 49), .plain .mv, [.tmp 3], (some (42, false))⟩,
       ⟨(some 50), .call 86, [.tmp 48, .lit (.int .i64 0), .tmp 49], (some (42, false))⟩,
       ⟨(some 51), .plain (.un .not), [.tmp 50], (some (42, false))⟩,
       ⟨(some 52), .plain .pick, [.tmp 42, .lit (.bool true), .tmp 51], none⟩,
       ⟨(some 53), .plain .mv, [.tmp 52], none⟩,
       ⟨(some 54), .plain (.fieldAddr 2), [.tmp 1], (some (53, false))⟩,
       ⟨(some 55), .plain (.load false 1), [.tmp 54], (some (53, false))⟩,
       ⟨(some 56), .plain .mv, [.tmp 4], (some (53, false))⟩,
       ⟨(some 57), .plain (.indexAddr 2), [.tmp 55, .tmp 56], (some (53, false))⟩,
       ⟨(some 58), .plain (.fieldAddr 1), [.tmp 57], (some (53, false))⟩,
       ⟨(some 59), .plain (.load false 1), [.tmp 58], (some (53, false))⟩,
       ⟨(some 60), .plain (.bin .rem), [.tmp 59, .lit (.int .i64 2)], (some (53, false))⟩,
       ⟨(some 61), .plain (.bin .neq), [.tmp 60, .lit (.int .i64 0)], (some (53, false))⟩,
       ⟨(some 62), .plain .pick, [.tmp 53, .lit (.bool true), .tmp 61], none⟩] [34, 35, 36, 37, 38, 39, 40, 41, 42, 43, 44, 45, 46, 47, 48, 49, 50, 51, 52, 53, 54, 55, 56, 57, 58, 59, 60, 61])
     (.cond (.tmp 62)
      (.seq (.ops [⟨(some 2), .plain .mv, [.lit (.bool false)], none⟩] [])
      .ret)
      .skip))
     (.seq (.ops [⟨(some 5), .plain .mv, [.lit (.int .i64 0)], none⟩] [])
     (.block 2
      (.loop
       (.seq (.seq (.ops [⟨(some 63), .plain .mv, [.tmp 5], none⟩,
         ⟨(some 64), .plain .mv, [.tmp 4], none⟩,
         ⟨(some 65), .plain (.bin .lss), [.tmp 63, .tmp 64], none⟩] [63, 64])
       (.cond (.tmp 65)
        .skip
        (.exit 2)))
       (.seq (.block 3
        (.seq (.draw (.step ⟨(some 68), .plain (.fieldAddr 2), [.tmp 1], none⟩
          (.step ⟨(some 69), .plain (.load false 1), [.tmp 68], none⟩
          (.step ⟨(some 70), .plain .mv, [.tmp 5], none⟩
          (.step ⟨(some 71), .plain (.indexAddr 2), [.tmp 69, .tmp 70], none⟩
          (.step ⟨(some 72), .plain (.fieldAddr 0), [.tmp 71], none⟩
          (.step ⟨(some 73), .plain (.load false 1), [.tmp 72], none⟩
          (.step ⟨(some 74), .plain (.fieldAddr 2), [.tmp 1], none⟩
          (.step ⟨(some 75), .plain (.load false 1), [.tmp 74], none⟩
          (.step ⟨(some 76), .plain .mv, [.tmp 4], none⟩
          (.step ⟨(some 77), .plain (.indexAddr 2), [.tmp 75, .tmp 76], none⟩
          (.step ⟨(some 78), .plain (.fieldAddr 0), [.tmp 77], none⟩
          (.step ⟨(some 79), .plain (.load false 1), [.tmp 78], none⟩
          (.step ⟨(some 80), .plain (.bin .eql), [.tmp 73, .tmp 79], none⟩
          .done))))))))))))) [68, 69, 70, 71, 72, 73, 74, 75, 76, 77, 78, 79])
        (.cond (.tmp 80)
         (.seq (.ops [⟨(some 2), .plain .mv, [.lit (.bool false)], none⟩] [])
         .ret)
         .skip)))
       (.ops [⟨(some 66), .plain .mv, [.tmp 5], none⟩,
         ⟨(some 67), .plain (.bin .add), [.tmp 66, .lit (.int .i64 1)], none⟩,
         ⟨(some 5), .plain .mv, [.tmp 67], none⟩] [66, 67]))))))))
    (.ops [⟨(some 32), .plain .mv, [.tmp 4], none⟩,
      ⟨(some 33), .plain (.bin .add), [.tmp 32, .lit (.int .i64 1)], none⟩,
      ⟨(some 4), .plain .mv, [.tmp 33], none⟩] [32, 33]))))))
  (.seq (.seq (.ops [⟨(some 6), .plain .mv, [.lit (.int .i64 0)], none⟩] [])
  (.block 4
   (.loop
    (.seq (.seq (.ops [⟨(some 81), .plain .mv, [.tmp 6], none⟩,
      ⟨(some 82), .plain (.fieldAddr 3), [.tmp 1], none⟩,
      ⟨(some 83), .plain (.load false 1), [.tmp 82], none⟩,
      ⟨(some 84), .plain (.len 1), [.tmp 83], none⟩,
      ⟨(some 85), .plain (.bin .lss), [.tmp 81, .tmp 84], none⟩] [81, 82, 83, 84])
    (.cond (.tmp 85)
     .skip
     (.exit 4)))
    (.seq (.block 5
     (.seq (.ops [⟨(some 88), .plain (.fieldAddr 3), [.tmp 1], none⟩,
       ⟨(some 89), .plain (.load false 1), [.tmp 88], none⟩,
       ⟨(some 90), .plain .mv, [.tmp 6], none⟩,
       ⟨(some 91), .plain (.indexAddr 3), [.tmp 89, .tmp 90], none⟩,
       ⟨(some 92), .plain (.load true 3), [.tmp 91], none⟩,
       ⟨(some 7), .plain (.alloc [(.int .i64 0), (.str ⟨#[]⟩), (.int .i64 0)]), [], none⟩,
       ⟨none, .plain (.store 3), [.tmp 7, .tmp 92], none⟩] [88, 89, 90, 91, 92])
     (.seq (.seq (.ops [⟨(some 93), .plain (.fieldAddr 1), [.tmp 7], none⟩,
       ⟨(some 94), .plain (.load false 1), [.tmp 93], none⟩,
       ⟨(some 95), .call 85, [.tmp 94], none⟩,
       ⟨(some 96), .plain (.un .not), [.tmp 95], none⟩,
       ⟨(some 97), .plain .mv, [.tmp 96], none⟩,
       ⟨(some 98), .plain (.fieldAddr 0), [.tmp 7], (some (97, false))⟩,
       ⟨(some 99), .plain (.load false 1), [.tmp 98], (some (97, false))⟩,
       ⟨(some 100), .plain .mv, [.tmp 3], (some (97, false))⟩,
       ⟨(some 101), .plain (.bin .sub), [.tmp 100, .lit (.int .i64 4)], (some (97, false))⟩,
       ⟨(some 102), .call 86, [.tmp 99, .lit (.int .i64 0), .tmp 101], (some (97, false))⟩,
       ⟨(some 103), .plain (.un .not), [.tmp 102], (some (97, false))⟩,
       ⟨(some 104), .plain .pick, [.tmp 97, .lit (.bool true), .tmp 103], none⟩,
       ⟨(some 105), .plain .mv, [.tmp 104], none⟩,
       ⟨(some 106), .plain (.fieldAddr 0), [.tmp 7], (some (105, false))⟩,
       ⟨(some 107), .plain (.load false 1), [.tmp 106], (some (105, false))⟩,
       ⟨(some 108), .plain (.bin .rem), [.tmp 107, .lit (.int .i64 4)], (some (105, false))⟩,
       ⟨(some 109), .plain (.bin .neq), [.tmp 108, .lit (.int .i64 0)], (some (105, false))⟩,
       ⟨(some 110), .plain .pick, [.tmp 105, .lit (.bool true), .tmp 109], none⟩,
       ⟨(some 111), .plain .mv, [.tmp 110], none⟩,
       ⟨(some 112), .plain (.fieldAddr 2), [.tmp 7], (some (111, false))⟩,
       ⟨(some 113), .plain (.load false 1), [.tmp 112], (some (111, false))⟩,
       ⟨(some 114), .call 86, [.tmp 113, .lit (.int .i64 (-1000000000)), .lit (.int .i64 1000000000)], (some (111, false))⟩,
       ⟨(some 115), .plain (.un .not), [.tmp 114], (some (111, false))⟩,
       ⟨(some 116), .plain .pick, [.tmp 111, .lit (.bool true), .tmp 115], none⟩] [93, 94, 95, 96, 97, 98, 99, 100, 101, 102, 103, 104, 105, 106, 107, 108, 109, 110, 111, 112, 113, 114, 115])
     (.cond (.tmp 116)
      (.seq (.ops [⟨(some 2), .plain .mv, [.lit (.bool false)], none⟩] [])
      .ret)
      .skip))
     (.seq (.ops [⟨(some 8), .plain .mv, [.lit (.int .i64 0)], none⟩] [])
     (.block 6
      (.loop
       (.seq (.seq (.ops [⟨(some 117), .plain .mv, [.tmp 8], none⟩,
         ⟨(some 118), .plain .mv, [.tmp 6], none⟩,
         ⟨(some 119), .plain (.bin .lss), [.tmp 117, .tmp 118], none⟩] [117, 118])
       (.cond (.tmp 119)
        .skip
        (.exit 6)))
       (.seq (.block 7
        (.seq (.draw (.step ⟨(some 122), .plain (.fieldAddr 3), [.tmp 1], none⟩
          (.step ⟨(some 123), .plain (.load false 1), [.tmp 122], none⟩
          (.step ⟨(some 124), .plain .mv, [.tmp 8], none⟩
          (.step ⟨(some 125), .plain (.indexAddr 3), [.tmp 123, .tmp 124], none⟩
          (.step ⟨(some 126), .plain (.fieldAddr 0), [.tmp 125], none⟩
          (.step ⟨(some 127), .plain (.load false 1), [.tmp 126], none⟩
          (.step ⟨(some 128), .plain (.fieldAddr 0), [.tmp 7], none⟩
          (.step ⟨(some 129), .plain (.load false 1), [.tmp 128], none⟩
          (.step ⟨(some 130), .plain (.bin .eql), [.tmp 127, .tmp 129], none⟩
          .done))))))))) [122, 123, 124, 125, 126, 127, 128, 129])
        (.cond (.tmp 130)
         (.seq (.ops [⟨(some 2), .plain .mv, [.lit (.bool false)], none⟩] [])
         .ret)
         .skip)))
       (.ops [⟨(some 120), .plain .mv, [.tmp 8], none⟩,
         ⟨(some 121), .plain (.bin .add), [.tmp 120, .lit (.int .i64 1)], none⟩,
         ⟨(some 8), .plain .mv, [.tmp 121], none⟩] [120, 121])))))))))
    (.ops [⟨(some 86), .plain .mv, [.tmp 6], none⟩,
      ⟨(some 87), .plain (.bin .add), [.tmp 86, .lit (.int .i64 1)], none⟩,
      ⟨(some 6), .plain .mv, [.tmp 87], none⟩] [86, 87]))))))
  (.seq (.seq (.ops [⟨(some 9), .plain .mv, [.lit (.int .i64 0)], none⟩] [])
  (.block 8
   (.loop
    (.seq (.seq (.ops [⟨(some 131), .plain .mv, [.tmp 9], none⟩,
      ⟨(some 132), .plain (.fieldAddr 4), [.tmp 1], none⟩,
      ⟨(some 133), .plain (.load false 1), [.tmp 132], none⟩,
      ⟨(some 134), .plain (.len 1), [.tmp 133], none⟩,
      ⟨(some 135), .plain (.bin .lss), [.tmp 131, .tmp 134], none⟩] [131, 132, 133, 134])
    (.cond (.tmp 135)
     .skip
     (.exit 8)))
    (.seq (.block 9
     (.seq (.ops [⟨(some 138), .plain (.fieldAddr 4), [.tmp 1], none⟩,
       ⟨(some 139), .plain (.load false 1), [.tmp 138], none⟩,
       ⟨(some 140), .plain .mv, [.tmp 9], none⟩,
       ⟨(some 141), .plain (.indexAddr 2), [.tmp 139, .tmp 140], none⟩,
       ⟨(some 142), .plain (.load true 2), [.tmp 141], none⟩,
       ⟨(some 10), .plain (.alloc [(.int .i64 0), (.int .i64 0)]), [], none⟩,
       ⟨none, .plain (.store 2), [.tmp 10, .tmp 142], none⟩] [138, 139, 140, 141, 142])
     (.seq (.draw (.step ⟨(some 143), .plain (.fieldAddr 0), [.tmp 10], none⟩
       (.step ⟨(some 144), .plain (.load false 1), [.tmp 143], none⟩
       (.step ⟨(some 145), .plain .mv, [.tmp 3], none⟩
       (.step ⟨(some 146), .plain (.bin .sub), [.tmp 145, .lit (.int .i64 1)], none⟩
       (.step ⟨(some 147), .call 86, [.tmp 144, .lit (.int .i64 0), .tmp 146], none⟩
       (.step ⟨(some 148), .plain (.un .not), [.tmp 147], none⟩
       (.step ⟨(some 149), .plain .mv, [.tmp 148], none⟩
       (.step ⟨(some 150), .plain (.fieldAddr 0), [.tmp 10], (some (149, false))⟩
       (.step ⟨(some 151), .plain (.load false 1), [.tmp 150], (some (149, false))⟩
       (.step ⟨(some 152), .plain (.bin .rem), [.tmp 151, .lit (.int .i64 2)], (some (149, false))⟩
       (.step ⟨(some 153), .plain (.bin .neq), [.tmp 152, .lit (.int .i64 0)], (some (149, false))⟩
       (.step ⟨(some 154), .plain .pick, [.tmp 149, .lit (.bool true), .tmp 153], none⟩
       (.step ⟨(some 155), .plain .mv, [.tmp 154], none⟩
       (.step ⟨(some 156), .plain (.fieldAddr 1), [.tmp 10], (some (155, false))⟩
       (.step ⟨(some 157), .plain (.load false 1), [.tmp 156], (some (155, false))⟩
       (.step ⟨(some 158), .call 86, [.tmp 157, .lit (.int .i64 0), .lit (.int .i64 1000000000)], (some (155, false))⟩
       (.step ⟨(some 159), .plain (.un .not), [.tmp 158], (some (155, false))⟩
       (.step ⟨(some 160), .plain .pick, [.tmp 155, .lit (.bool true), .tmp 159], none⟩
       (.step ⟨(some 161), .plain .mv, [.tmp 160], none⟩
       (.step ⟨(some 162), .plain .mv, [.tmp 9], (some (161, false))⟩
       (.step ⟨(some 163), .plain (.bin .gtr), [.tmp 162, .lit (.int .i64 0)], (some (161, false))⟩
       (.step ⟨(some 164), .plain .mv, [.tmp 163], (some (161, false))⟩
       (.step ⟨(some 165), .plain (.fieldAddr 4), [.tmp 1], (some (164, true))⟩
       (.step ⟨(some 166), .plain (.load false 1), [.tmp 165], (some (164, true))⟩
       (.step ⟨(some 167), .plain .mv, [.tmp 9], (some (164, true))⟩
       (.step ⟨(some 168), .plain (.bin .sub), [.tmp 167, .lit (.int .i64 1)], (some (164, true))⟩
       (.step ⟨(some 169), .plain (.indexAddr 2), [.tmp 166, .tmp 168], (some (164, true))⟩
       (.step ⟨(some 170), .plain (.fieldAddr 0), [.tmp 169], (some (164, true))⟩
       (.step ⟨(some 171), .plain (.load false 1), [.tmp 170], (some (164, true))⟩
       (.step ⟨(some 172), .plain (.fieldAddr 0), [.tmp 10], (some (164, true))⟩
       (.step ⟨(some 173), .plain (.load false 1), [.tmp 172], (some (164, true))⟩
       (.step ⟨(some 174), .plain (.bin .geq), [.tmp 171, .tmp 173], (some (164, true))⟩
       (.step ⟨(some 175), .plain .pick, [.tmp 164, .tmp 174, .lit (.bool false)], (some (161, false))⟩
       (.step ⟨(some 176), .plain .pick, [.tmp 161, .lit (.bool true), .tmp 175], none⟩
       .done)))))))))))))))))))))))))))))))))) [143, 144, 145, 146, 147, 148, 149, 150, 151, 152, 153, 154, 155, 156, 157, 158, 159, 160, 161, 162, 163, 164, 165, 166, 167, 168, 169, 170, 171, 172, 173, 174, 175])
     (.cond (.tmp 176)
      (.seq (.ops [⟨(some 2), .plain .mv, [.lit (.bool false)], none⟩] [])
      .ret)
      .skip))))
    (.ops [⟨(some 136), .plain .mv, [.tmp 9], none⟩,
      ⟨(some 137), .plain (.bin .add), [.tmp 136, .lit (.int .i64 1)], none⟩,
      ⟨(some 9), .plain .mv, [.tmp 137], none⟩] [136, 137]))))))
  (.seq (.ops [⟨(some 2), .plain .mv, [.lit (.bool true)], none⟩] [])
  .ret)))))))
def cr29 : List Res := [(2, none)]
theorem ok29 : FOk Zk.pg.toProgram Zk.imp 29 c29 cr29 Tryz.f29.ntmps := ⟨Tryz.f29, _, Tryz.func29, rfl, by kernel_rfl, by kernel_rfl, by kernel_rfl, rfl⟩

/-- ironbark/link.Valid -/
def c27 : SC :=
  (.seq (.ops [⟨(some 1), .plain (.box 5), [.tmp 0], none⟩,
    ⟨(some 2), .plain .mv, [.lit (.bool false)], none⟩] [])
  (.seq (.ops [⟨(some 13), .plain (.fieldAddr 1), [.tmp 1], none⟩,
    ⟨(some 14), .plain (.load false 1), [.tmp 13], none⟩,
    ⟨(some 15), .plain (.len 0), [.tmp 14], none⟩,
    ⟨(some 3), .plain .mv, [.tmp 15], none⟩] [13, 14, 15])
  (.seq (.seq (.ops [⟨(some 16), .plain (.fieldAddr 0), [.tmp 1], none⟩,
    ⟨(some 17), .plain (.load false 1), [.tmp 16], none⟩,
    ⟨(some 18), .call 80, [.tmp 17], none⟩,
    ⟨(some 19), .plain (.un .not), [.tmp 18], none⟩,
    ⟨(some 20), .plain .mv, [.tmp 19], none⟩,
    ⟨(some 21), .plain .mv, [.tmp 3], (some (20, false))⟩,
    ⟨(some 22), .plain (.bin .gtr), [.tmp 21, .lit (.int .i64 20000)], (some (20, false))⟩,
    ⟨(some 23), .plain .pick, [.tmp 20, .lit (.bool true), .tmp 22], none⟩,
    ⟨(some 24), .plain .mv, [.tmp 23], none⟩,
    ⟨(some 25), .plain .mv, [.tmp 3], (some (24, false))⟩,
    ⟨(some 26), .plain (.bin .rem), [.tmp 25, .lit (.int .i64 2)], (some (24, false))⟩,
    ⟨(some 27), .plain (.bin .neq), [.tmp 26, .lit (.int .i64 0)], (some (24, false))⟩,
    ⟨(some 28), .plain .pick, [.tmp 24, .lit (.bool true), .tmp 27], none⟩] [16, 17, 18, 19, 20, 21, 22, 23, 24, 25, 26, 27])
  (.cond (.tmp 28)
   (.seq (.ops [⟨(some 2), .plain .mv, [.lit (.bool false)], none⟩] [])
   .ret)
   .skip))
  (.seq (.ops [⟨(some 29), .plain .mkMap, [], none⟩,
    ⟨(some 30), .plain .mkMap, [], none⟩,
    ⟨(some 4), .plain .mv, [.tmp 29], none⟩,
    ⟨(some 5), .plain .mv, [.tmp 30], none⟩] [29, 30])
  (.seq (.seq (.ops [⟨(some 31), .plain (.fieldAddr 2), [.tmp 1], none⟩,
    ⟨(some 32), .plain (.load false 1), [.tmp 31], none⟩,
    ⟨(some 33), .plain (.len 1), [.tmp 32], none⟩,
    ⟨(some 34), .plain .mv, [.lit (.int .i64 0)], none⟩] [31])
  (.block 0
   (.loop
    (.seq (.ops [⟨(some 35), .plain (.bin .lss), [.tmp 34, .tmp 33], none⟩] [])
    (.seq (.cond (.tmp 35)
     .skip
     (.exit 0))
    (.seq (.block 1
     (.seq (.ops [⟨(some 36), .plain (.indexAddr 2), [.tmp 32, .tmp 34], none⟩,
       ⟨(some 37), .plain (.load true 2), [.tmp 36], none⟩,
       ⟨(some 7), .plain (.alloc [(.str ⟨#[]⟩), (.int .i64 0)]), [], none⟩,
       ⟨none, .plain (.store 2), [.tmp 7, .tmp 37], none⟩] [36, 37])
     (.seq (.seq (.ops [⟨(some 38), .plain (.fieldAddr 0), [.tmp 7], none⟩,
       ⟨(some 39), .plain (.load false 1), [.tmp 38], none⟩,
       ⟨(some 40), .call 80, [.tmp 39], none⟩,
       ⟨(some 41), .plain (.un .not), [.tmp 40], none⟩,
       ⟨(some 42), .plain .mv, [.tmp 41], none⟩,
       ⟨(some 43), .plain .mv, [.tmp 4], (some (42, false))⟩,
       ⟨(some 44), .plain (.fieldAddr 0), [.tmp 7], (some (42, false))⟩,
       ⟨(some 45), .plain (.load false 1), [.tmp 44], (some (42, false))⟩,
       ⟨(some 46), .plain (.lookup .str (.bool false) false), [.tmp 43, .tmp 45], (some (42, false))⟩,
       ⟨(some 47), .plain .pick, [.tmp 42, .lit (.bool true), .tmp 46], none⟩,
       ⟨(some 48), .plain .mv, [.tmp 47], none⟩,
       ⟨(some 49), .plain (.fieldAddr 1), [.tmp 7], (some (48, false))⟩,
       ⟨(some 50), .plain (.load false 1), [.tmp 49], (some (48, false))⟩,
       ⟨(some 51), .plain (.bin .lss), [.tmp 50, .lit (.int .i64 0)], (some (48, false))⟩,
       ⟨(some 52), .plain .pick, [.tmp 48, .lit (.bool true), .tmp 51], none⟩,
       ⟨(some 53), .plain .mv, [.tmp 52], none⟩,
       ⟨(some 54), .plain (.fieldAddr 1), [.tmp 7], (some (53, false))⟩,
       ⟨(some 55), .plain (.load false 1), [.tmp 54], (some (53, false))⟩,
       ⟨(some 56), .plain .mv, [.tmp 3], (some (53, false))⟩,
       ⟨(some 57), .plain (.bin .gtr), [.tmp 55, .tmp 56], (some (53, false))⟩,
       ⟨(some 58), .plain .pick, [.tmp 53, .lit (.bool true), .tmp 57], none⟩,
       ⟨(some 59), .plain .mv, [.tmp 58], none⟩,
       ⟨(some 60), .plain (.fieldAddr 1), [.tmp 7], (some (59, false))⟩,
       ⟨(some 61), .plain (.load false 1), [.tmp 60], (some (59, false))⟩,
       ⟨(some 62), .plain (.bin .rem), [.tmp 61, .lit (.int .i64 2)], (some (59, false))⟩,
       ⟨(some 63), .plain (.bin .neq), [.tmp 62, .lit (.int .i64 0)], (some (59, false))⟩,
       ⟨(some 64), .plain .pick, [.tmp 59, .lit (.bool true), .tmp 63], none⟩] [38, 39, 40, 41, 42, 43, 44, 45, 46, 47, 48, 49, 50, 51, 52, 53, 54, 55, 56, 57, 58, 59, 60, 61, 62, 63])
     (.cond (.tmp 64)
      (.seq (.ops [⟨(some 2), .plain .mv, [.lit (.bool false)], none⟩] [])
      .ret)
      .skip))
     (.ops [⟨(some 65), .plain .mv, [.tmp 4], none⟩,
       ⟨(some 66), .plain (.fieldAddr 0), [.tmp 7], none⟩,
       ⟨(some 67), .plain (.load false 1), [.tmp 66], none⟩,
       ⟨none, .plain (.mapUpdate .str), [.tmp 65, .tmp 67, .lit (.bool true)], none⟩] [65, 66, 67]))))
    (.ops [⟨(some 68), .plain (.bin .add), [.tmp 34, .lit (.int .i64 1)], none⟩,
      ⟨(some 34), .plain .mv, [.tmp 68], none⟩] [68])))))))
  (.seq (.seq (.ops [⟨(some 69), .plain (.fieldAddr 3), [.tmp 1], none⟩,
    ⟨(some 70), .plain (.load false 1), [.tmp 69], none⟩,
    ⟨(some 71), .plain (.len 1), [.tmp 70], none⟩,
    ⟨(some 72), .plain .mv, [.lit (.int .i64 0)], none⟩] [69])
  (.block 2
   (.loop
    (.seq (.ops [⟨(some 73), .plain (.bin .lss), [.tmp 72, .tmp 71], none⟩] [])
    (.seq (.cond (.tmp 73)
     .skip
     (.exit 2))
    (.seq (.block 3
     (.seq (.ops [⟨(some 74), .plain (.indexAddr 3), [.tmp 70, .tmp 72], none⟩,
       ⟨(some 75), .plain (.load true 3), [.tmp 74], none⟩,
       ⟨(some 9), .plain (.alloc [(.int .i64 0), (.str ⟨#[]⟩), (.int .i64 0)]), [], none⟩,
       ⟨none, .plain (.store 3), [.tmp 9, .tmp 75], none⟩] [74, 75])
     (.seq (.seq (.ops [⟨(some 76), .plain (.fieldAddr 1), [.tmp 9], none⟩,
       ⟨(some 77), .plain (.load false 1), [.tmp 76], none⟩,
       ⟨(some 78), .call 80, [.tmp 77], none⟩,
       ⟨(some 79), .plain (.un .not), [.tmp 78], none⟩,
       ⟨(some 80), .plain .mv, [.tmp 79], none⟩,
       ⟨(some 81), .plain .mv, [.tmp 5], (some (80, false))⟩,
       ⟨(some 82), .plain (.fieldAddr 0), [.tmp 9], (some (80, false))⟩,
       ⟨(some 83), .plain (.load false 1), [.tmp 82], (some (80, false))⟩,
       ⟨(some 84), .plain (.lookup .int (.bool false) false), [.tmp 81, .tmp 83], (some (80, false))⟩,
       ⟨(some 85), .plain .pick, [.tmp 80, .lit (.bool true), .tmp 84], none⟩,
       ⟨(some 86), .plain .mv, [.tmp 85], none⟩,
       ⟨(some 87), .plain (.fieldAddr 0), [.tmp 9], (some (86, false))⟩,
       ⟨(some 88), .plain (.load false 1), [.tmp 87], (some (86, false))⟩,
       ⟨(some 89), .plain (.bin .lss), [.tmp 88, .lit (.int .i64 0)], (some (86, false))⟩,
       ⟨(some 90), .plain .pick, [.tmp 86, .lit (.bool true), .tmp 89], none⟩,
       ⟨(some 91), .plain .mv, [.tmp 90], none⟩,
       ⟨(some 92), .plain (.fieldAddr 0), [.tmp 9], (some (91, false))⟩,
       ⟨(some 93), .plain (.load false 1), [.tmp 92], (some (91, false))⟩,
       ⟨(some 94), .plain .mv, [.tmp 3], (some (91, false))⟩,
       ⟨(some 95), .plain (.bin .sub), [.tmp 94, .lit (.int .i64 4)], (some (91, false))⟩,
       ⟨(some 96), .plain (.bin .gtr), [.tmp 93, .tmp 95], (some (91, false))⟩,
       ⟨(some 97), .plain .pick, [.tmp 91, .lit (.bool true), .tmp 96], none⟩,
       ⟨(some 98), .plain .mv, [.tmp 97], none⟩,
       ⟨(some 99), .plain (.fieldAddr 0), [.tmp 9], (some (98, false))⟩,
       ⟨(some 100), .plain (.load false 1), [.tmp 99], (some (98, false))⟩,
       ⟨(some 101), .plain (.bin .rem), [.tmp 100, .lit (.int .i64 4)], (some (98, false))⟩,
       ⟨(some 102), .plain (.bin .neq), [.tmp 101, .lit (.int .i64 0)], (some (98, false))⟩,
       ⟨(some 103), .plain .pick, [.tmp 98, .lit (.bool true), .tmp 102], none⟩,
       ⟨(some 104), .plain .mv, [.tmp 103], none⟩,
       ⟨(some 105), .plain (.fieldAddr 2), [.tmp 9], (some (104, false))⟩,
       ⟨(some 106), .plain (.load false 1), [.tmp 105], (some (104, false))⟩,
       ⟨(some 107), .plain (.bin .gtr), [.tmp 106, .lit (.int .i64 1000000000)], (some (104, false))⟩,
       ⟨(some 108), .plain .pick, [.tmp 104, .lit (.bool true), .tmp 107], none⟩,
       ⟨(some 109), .plain .mv, [.tmp 108], none⟩,
       ⟨(some 110), .plain (.fieldAddr 2), [.tmp 9], (some (109, false))⟩,
       ⟨(some 111), .plain (.load false 1), [.tmp 110], (some (109, false))⟩,
       ⟨(some 112), .plain (.bin .lss), [.tmp 111, .lit (.int .i64 (-1000000000))], (some (109, false))⟩,
       ⟨(some 113), .plain .pick, [.tmp 109, .lit (.bool true), .tmp 112], none⟩] [76, 77, 78, 79, 80, 81, 82, 83, 84, 85, 86, 87, 88, 89, 90, 91, 92, 93, 94, 95, 96, 97, 98, 99, 100, 101, 102, 103, 104, 105, 106, 107, 108, 109, 110, 111, 112])
     (.cond (.tmp 113)
      (.seq (.ops [⟨(some 2), .plain .mv, [.lit (.bool false)], none⟩] [])
      .ret)
      .skip))
     (.ops [⟨(some 114), .plain .mv, [.tmp 5], none⟩,
       ⟨(some 115), .plain (.fieldAddr 0), [.tmp 9], none⟩,
       ⟨(some 116), .plain (.load false 1), [.tmp 115], none⟩,
       ⟨none, .plain (.mapUpdate .int), [.tmp 114, .tmp 116, .lit (.bool true)], none⟩] [114, 115, 116]))))
    (.ops [⟨(some 117), .plain (.bin .add), [.tmp 72, .lit (.int .i64 1)], none⟩,
      ⟨(some 72), .plain .mv, [.tmp 117], none⟩] [117])))))))
  (.seq (.ops [⟨(some 10), .plain .mv, [.lit (.int .i64 (-1))], none⟩] [])
  (.seq (.seq (.ops [⟨(some 118), .plain (.fieldAddr 4), [.tmp 1], none⟩,
    ⟨(some 119), .plain (.load false 1), [.tmp 118], none⟩,
    ⟨(some 120), .plain (.len 1), [.tmp 119], none⟩,
    ⟨(some 121), .plain .mv, [.lit (.int .i64 0)], none⟩] [118])
  (.block 4
   (.loop
    (.seq (.ops [⟨(some 122), .plain (.bin .lss), [.tmp 121, .tmp 120], none⟩] [])
    (.seq (.cond (.tmp 122)
     .skip
     (.exit 4))
    (.seq (.block 5
     (.seq (.ops [⟨(some 123), .plain (.indexAddr 2), [.tmp 119, .tmp 121], none⟩,
       ⟨(some 124), .plain (.load true 2), [.tmp 123], none⟩,
       ⟨(some 12), .plain (.alloc [(.int .i64 0), (.int .i64 0)]), [], none⟩,
       ⟨none, .plain (.store 2), [.tmp 12, .tmp 124], none⟩] [123, 124])
     (.seq (.seq (.ops [⟨(some 125), .plain (.fieldAddr 0), [.tmp 12], none⟩,
       ⟨(some 126), .plain (.load false 1), [.tmp 125], none⟩,
       ⟨(some 127), .plain .mv, [.tmp 10], none⟩,
       ⟨(some 128), .plain (.bin .leq), [.tmp 126, .tmp 127], none⟩,
       ⟨(some 129), .plain .mv, [.tmp 128], none⟩,
       ⟨(some 130), .plain (.fieldAddr 0), [.tmp 12], (some (129, false))⟩,
       ⟨(some 131), .plain (.load false 1), [.tmp 130], (some (129, false))⟩,
       ⟨(some 132), .plain .mv, [.tmp 3], (some (129, false))⟩,
       ⟨(some 133), .plain (.bin .geq), [.tmp 131, .tmp 132], (some (129, false))⟩,
       ⟨(some 134), .plain .pick, [.tmp 129, .lit (.bool true), .tmp 133], none⟩,
       ⟨(some 135), .plain .mv, [.tmp 134], none⟩,
       ⟨(some 136), .plain (.fieldAddr 0), [.tmp 12], (some (135, false))⟩,
       ⟨(some 137), .plain (.load false 1), [.tmp 136], (some (135, false))⟩,
       ⟨(some 138), .plain (.bin .rem), [.tmp 137, .lit (.int .i64 2)], (some (135, false))⟩,
       ⟨(some 139), .plain (.bin .neq), [.tmp 138, .lit (.int .i64 0)], (some (135, false))⟩,
       ⟨(some 140), .plain .pick, [.tmp 135, .lit (.bool true), .tmp 139], none⟩,
       ⟨(some 141), .plain .mv, [.tmp 140], none⟩,
       ⟨(some 142), .plain (.fieldAddr 1), [.tmp 12], (some (141, false))⟩,
       ⟨(some 143), .plain (.load false 1), [.tmp 142], (some (141, false))⟩,
       ⟨(some 144), .plain (.bin .lss), [.tmp 143, .lit (.int .i64 0)], (some (141, false))⟩,
       ⟨(some 145), .plain .pick, [.tmp 141, .lit (.bool true), .tmp 144], none⟩,
       ⟨(some 146), .plain .mv, [.tmp 145], none⟩,
       ⟨(some 147), .plain (.fieldAddr 1), [.tmp 12], (some (146, false))⟩,
       ⟨(some 148), .plain (.load false 1), [.tmp 147], (some (146, false))⟩,
       ⟨(some 149), .plain (.bin .gtr), [.tmp 148, .lit (.int .i64 1000000000)], (some (146, false))⟩,
       ⟨(some 150), .plain .pick, [.tmp 146, .lit (.bool true), .tmp 149], none⟩] [125, 126, 127, 128, 129, 130, 131, 132, 133, 134, 135, 136, 137, 138, 139, 140, 141, 142, 143, 144, 145, 146, 147, 148, 149])
     (.cond (.tmp 150)
      (.seq (.ops [⟨(some 2), .plain .mv, [.lit (.bool false)], none⟩] [])
      .ret)
      .skip))
     (.ops [⟨(some 151), .plain (.fieldAddr 0), [.tmp 12], none⟩,
       ⟨(some 152), .plain (.load false 1), [.tmp 151], none⟩,
       ⟨(some 10), .plain .mv, [.tmp 152], none⟩] [151, 152]))))
    (.ops [⟨(some 153), .plain (.bin .add), [.tmp 121, .lit (.int .i64 1)], none⟩,
      ⟨(some 121), .plain .mv, [.tmp 153], none⟩] [153])))))))
  (.seq (.ops [⟨(some 2), .plain .mv, [.lit (.bool true)], none⟩] [])
  .ret)))))))))
def cr27 : List Res := [(2, none)]
theorem ok27 : FOk Zk.pg.toProgram Zk.imp 27 c27 cr27 Tryz.f27.ntmps := ⟨Tryz.f27, _, Tryz.func27, rfl, by kernel_rfl, by kernel_rfl, by kernel_rfl, rfl⟩

end Go.Pm

/- ZkC3: contracts: the document's Valid. -/
namespace Go.Pm
open Go Go.Proofs
attribute [-simp] List.getElem?_map

set_option maxHeartbeats 4000000 in
theorem call29 (o : Deck) (hs : o.Small) : PCalls Zk.pg 29 [.agg o.av] fun out => out = .ret (.bool (deckOk o)) := by
  refine ok29.pcalls (by simp) ?_
  simp [c29, Deck.av]
  refine xcall_p (call85 o.name hs.name) rfl ?_
  simp
  refine br_guard_f rfl (fun h1 => ?_) (fun h1 => ?_) <;> simp at h1
  · simp [h1, cr29, deckOk]
  simp [h1]
  refine br_guard_f rfl (fun h2 => ?_) (fun h2 => ?_)
  · simp [h2, cr29, deckOk]
  simp [h2]
  refine br_cond rfl (fun h3 => ?_) (fun h3 => ?_) <;> simp at h3
  · simp [h3, cr29, deckOk]
  simp
  have dl := hs.defs
  have rl := hs.refs
  have ll := hs.lines
  have cl := hs.code
  -- the names
  refine wpS_loop (ι := Nat) (fun i => [(1, .ptr 0 0 0), (2, .bool false), (3, .int .i64 o.code.size), (4, .int .i64 i)]) (fun _ => ⟨[(0, .cells o.av)], 1⟩) (fun i => o.defs.length - i) (fun i => i ≤ o.defs.length ∧ ∀ j, j < i → defOk o.code.size o.defs j = true) 0 (by simp) (Env.le_of (by simp)) (by simp [Deck.av]) ?_
  intro i ⟨hi, hall⟩
  have hw : IntKind.i64.wrap (i + 1) = i + 1 := wrap64 (by omega) (by omega)
  simp [Deck.av]
  refine br_cond rfl (fun h4 => ?_) (fun h4 => ?_)
  · have hlt : i < o.defs.length := by have := ltI_t.1 h4; omega
    have bad : defOk o.code.size o.defs i = false → deckOk o = false := fun h => by simp [deckOk, all_f hlt h]
    simp [h4, idxM, DDef.av]
    refine xcall_p (call85 (ix o.defs i).name (hs.dname _ (ix_mem hlt))) rfl ?_
    simp
    refine br_guard_f rfl (fun h5 => ?_) (fun h5 => ?_) <;> simp at h5
    · simp [h5, cr29, bad (by simp [defOk, h5])]
    simp [h5, h4, idxM, DDef.av]
    refine xcall_p (call86 (ix o.defs i).at_ 0 o.code.size) rfl ?_
    simp
    refine br_guard_f rfl (fun h6 => ?_) (fun h6 => ?_) <;> simp at h6
    · simp [h6, cr29, bad (by simp [defOk, h6])]
    simp [h6, h4, idxM, DDef.av]
    refine br_cond rfl (fun h7 => ?_) (fun h7 => ?_) <;> simp at h7
    · simp [cr29, bad (by simp [defOk, h7])]
    simp
    refine wpS_loop (ι := Nat) (fun k => [(1, .ptr 0 0 0), (2, .bool false), (3, .int .i64 o.code.size), (4, .int .i64 i), (5, .int .i64 k)]) (fun _ => ⟨[(0, .cells o.av)], 1⟩) (fun k => i - k) (fun k => k ≤ i ∧ ∀ j, j < k → eqS (ix o.defs j).name (ix o.defs i).name = false) 0 (by simp) (Env.le_of (by simp)) (by simp [Deck.av]) ?_
    intro k ⟨hk, hkall⟩
    have hwk : IntKind.i64.wrap (k + 1) = k + 1 := wrap64 (by omega) (by omega)
    simp [Deck.av]
    refine br_cond rfl (fun h8 => ?_) (fun h8 => ?_)
    · have hki : k < i := by have := ltI_t.1 h8; omega
      have h9 : ltI ↑k ↑o.defs.length = true := ltN (by omega)
      simp [h9, h8, h4, idxM, DDef.av]
      refine br_cond rfl (fun h10 => ?_) (fun h10 => ?_)
      · simp [cr29, bad (by simp only [defOk, all_f (p := fun k => !eqS (ix o.defs k).name (ix o.defs i).name) hki (by simp [h10]), Bool.and_false])]
      · simp [hwk]
        exact ⟨k + 1, ⟨by omega, upto hkall h10⟩, by omega, Env.le_of (by simp), Mem.le_of rfl (by simp)⟩
    · simp [h8, hw]
      have hki : k = i := by have := ltI_f.1 h8; omega
      have hka : ∀ j, j < i → _ := fun j hj => hkall j (hki ▸ hj)
      refine ⟨i + 1, ⟨by omega, upto hall ?_⟩, by omega, Env.le_of (by simp), Mem.le_of rfl (by simp)⟩
      simp only [defOk, h5, h6, h7, all_t (n := i) (p := fun k => !eqS (ix o.defs k).name (ix o.defs i).name) (fun j hj => by simp [hka j hj]), Bool.and_self]
  clear hw
  have hid : i = o.defs.length := by have := ltI_f.1 h4; omega
  have hD : (List.range o.defs.length).all (defOk o.code.size o.defs) = true := all_t (by rw [← hid]; exact hall)
  clear hall hi
  simp [h4]
  clear h4 hid
  -- the places
  refine wpS_loop (ι := Nat × Nat) (fun s => [(1, .ptr 0 0 0), (2, .bool false), (3, .int .i64 o.code.size), (6, .int .i64 s.1)]) (fun s => ⟨[(0, .cells o.av)], s.2⟩) (fun s => o.refs.length - s.1) (fun s => s.1 ≤ o.refs.length ∧ ∀ j, j < s.1 → refOk o.code.size o.refs j = true) (0, 1) (by simp) (Env.le_of (by simp)) (by simp [Deck.av]) ?_
  intro ⟨i, nx⟩ ⟨hi, hall⟩
  simp only at hi hall
  have hw : IntKind.i64.wrap (i + 1) = i + 1 := wrap64 (by omega) (by omega)
  have hw4 : IntKind.i64.wrap ((o.code.size : Int) - 4) = (o.code.size : Int) - 4 := wrap64 (by omega) (by omega)
  simp [Deck.av]
  refine br_cond rfl (fun h4 => ?_) (fun h4 => ?_)
  · have hlt : i < o.refs.length := by have := ltI_t.1 h4; omega
    have bad : refOk o.code.size o.refs i = false → deckOk o = false := fun h => by simp [deckOk, all_f hlt h]
    simp [h4, idxM, DRef.av]
    refine xcall_p (call85 (ix o.refs i).name (hs.rname _ (ix_mem hlt))) rfl ?_
    simp
    refine br_guard_f rfl (fun h5 => ?_) (fun h5 => ?_) <;> simp at h5
    · simp [h5, cr29, bad (by simp [refOk, h5])]
    simp [h5, hw4]
    refine xcall_p (call86 (ix o.refs i).at_ 0 (o.code.size - 4)) rfl ?_
    simp
    refine br_guard_f rfl (fun h6 => ?_) (fun h6 => ?_) <;> simp at h6
    · simp [h6, cr29, bad (by simp [refOk, h6])]
    simp [h6]
    refine br_guard_f rfl (fun h7 => ?_) (fun h7 => ?_) <;> simp at h7
    · simp [h7, cr29, bad (by simp [refOk, h7])]
    simp [h7]
    refine xcall_p (call86 (ix o.refs i).plus (-1000000000) 1000000000) rfl ?_
    simp
    refine br_cond rfl (fun h11 => ?_) (fun h11 => ?_) <;> simp at h11
    · simp [cr29, bad (by simp [refOk, h11])]
    simp
    refine wpS_loop (ι := Nat) (fun k => [(1, .ptr 0 0 0), (2, .bool false), (3, .int .i64 o.code.size), (6, .int .i64 i), (7, .ptr 1 nx 0), (8, .int .i64 k)]) (fun _ => ⟨[(0, .cells o.av), (nx, .cells (ix o.refs i).av)], nx + 1⟩) (fun k => i - k) (fun k => k ≤ i ∧ ∀ j, j < k → eqI (ix o.refs j).at_ (ix o.refs i).at_ = false) 0 (by simp) (Env.le_of (by simp)) (by simp [Deck.av, DRef.av]) ?_
    intro k ⟨hk, hkall⟩
    have hwk : IntKind.i64.wrap (k + 1) = k + 1 := wrap64 (by omega) (by omega)
    simp [Deck.av, DRef.av]
    refine br_cond rfl (fun h8 => ?_) (fun h8 => ?_)
    · have hki : k < i := by have := ltI_t.1 h8; omega
      have h9 : ltI ↑k ↑o.refs.length = true := ltN (by omega)
      simp [h9, h8, idxM, DRef.av]
      refine br_cond rfl (fun h10 => ?_) (fun h10 => ?_)
      · simp [cr29, bad (by simp only [refOk, all_f (p := fun k => !eqI (ix o.refs k).at_ (ix o.refs i).at_) hki (by simp [h10]), Bool.and_false])]
      · simp [hwk]
        exact ⟨k + 1, ⟨by omega, upto hkall h10⟩, by omega, Env.le_of (by simp), Mem.le_of rfl (by simp)⟩
    · simp [h8, hw]
      have hki : k = i := by have := ltI_f.1 h8; omega
      have hka : ∀ j, j < i → _ := fun j hj => hkall j (hki ▸ hj)
      refine ⟨i + 1, ⟨by omega, upto hall ?_⟩, by omega, Env.le_of (by simp), nx + 1, Mem.le_of rfl (by simp)⟩
      simp only [refOk, h5, h6, h7, h11, all_t (n := i) (p := fun k => !eqI (ix o.refs k).at_ (ix o.refs i).at_) (fun j hj => by simp [hka j hj]), Bool.and_self]
  clear hw
  have hid : i = o.refs.length := by have := ltI_f.1 h4; omega
  have hR : (List.range o.refs.length).all (refOk o.code.size o.refs) = true := all_t (by rw [← hid]; exact hall)
  clear hall hi
  simp [h4]
  clear h4 hid
  -- the lines
  refine wpS_loop (ι := Nat × Nat) (fun s => [(1, .ptr 0 0 0), (2, .bool false), (3, .int .i64 o.code.size), (9, .int .i64 s.1)]) (fun s => ⟨[(0, .cells o.av)], s.2⟩) (fun s => o.lines.length - s.1) (fun s => s.1 ≤ o.lines.length ∧ ∀ j, j < s.1 → lineOk o.code.size o.lines j = true) (0, nx) (by simp) (Env.le_of (by simp)) (by simp [Deck.av]) ?_
  intro ⟨i, nx⟩ ⟨hi, hall⟩
  simp only at hi hall
  have hw : IntKind.i64.wrap (i + 1) = i + 1 := wrap64 (by omega) (by omega)
  have hw1 : IntKind.i64.wrap ((o.code.size : Int) - 1) = (o.code.size : Int) - 1 := wrap64 (by omega) (by omega)
  simp [Deck.av]
  refine br_cond rfl (fun h4 => ?_) (fun h4 => ?_)
  · have hlt : i < o.lines.length := by have := ltI_t.1 h4; omega
    have bad : lineOk o.code.size o.lines i = false → deckOk o = false := fun h => by simp [deckOk, all_f hlt h]
    have good : lineOk o.code.size o.lines i = true → ∀ j, j < i + 1 → lineOk o.code.size o.lines j = true := upto hall
    simp [h4, idxM, DLine.av, hw1]
    refine xdcall_p rfl (call86 (ix o.lines i).at_ 0 (o.code.size - 1)) rfl ?_
    simp
    refine br_dguard_f rfl (fun h5 => ?_) (fun h5 => ?_) <;> simp at h5
    · simp [h5, cr29, bad (by simp [lineOk, h5])]
    simp [h5]
    refine br_dguard_f rfl (fun h6 => ?_) (fun h6 => ?_) <;> simp at h6
    · simp [h6, cr29, bad (by simp [lineOk, h6])]
    simp [h6]
    refine xdcall_p rfl (call86 (ix o.lines i).stmt 0 1000000000) rfl ?_
    simp
    refine br_dguard_f rfl (fun h7 => ?_) (fun h7 => ?_) <;> simp at h7
    · simp [h7, cr29, bad (by simp [lineOk, h7])]
    simp [h7]
    refine br_dguard_t rfl (fun h8 => ?_) (fun h8 => ?_)
    · have h0 := ltI_t.1 h8
      have hwm : IntKind.i64.wrap (i - 1) = ((i - 1 : Nat) : Int) := by rw [wrap64 (by omega) (by omega)]; omega
      have h9 : ltI ↑(i - 1) ↑o.lines.length = true := ltN (by omega)
      simp [h8, hwm, h9, idxM, DLine.av]
      refine br_cond rfl (fun h10 => ?_) (fun h10 => ?_)
      · simp [cr29, bad (by simp [lineOk, h8, h10])]
      · simp [hw]
        exact ⟨i + 1, ⟨by omega, good (by simp [lineOk, h5, h6, h7, h10])⟩, by omega, Env.le_of (by simp), nx + 1, Mem.le_of rfl (by simp)⟩
    · simp [h8, hw]
      exact ⟨i + 1, ⟨by omega, good (by simp [lineOk, h5, h6, h7, h8])⟩, by omega, Env.le_of (by simp), nx + 1, Mem.le_of rfl (by simp)⟩
  have hid : i = o.lines.length := by have := ltI_f.1 h4; omega
  have hL : (List.range o.lines.length).all (lineOk o.code.size o.lines) = true := all_t (by rw [← hid]; exact hall)
  simp [h4, cr29, deckOk, h1, h2, h3, hD, hR, hL]
end Go.Pm
