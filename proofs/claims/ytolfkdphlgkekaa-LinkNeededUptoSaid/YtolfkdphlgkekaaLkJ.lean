/- LkJ: what the arguments' readings say: objects and libraries as values. -/
import Derived.Test.YtolfkdphlgkekaaMj
import Derived.Test.YtolfkdphlgkekaaRows
import Derived.ProofKit
import Derived.OpenShut
import Derived.JoinedCond
namespace Go.Pm
open Go Go.Proofs Go.Proofs.Ytolfkdphlgkekaa
attribute [-simp] List.getElem?_map List.length_flatten

section
variable {H : Type} {enc : TypeId × Value → H} {w : World}

theorem bulk_pos (d : DataW H) : 1 ≤ Rows.uptoBulk d := by
  cases d with
  | lit l => cases l <;> simp [Rows.uptoBulk]
  | nil => simp [Rows.uptoBulk]
  | ptr d => simp [Rows.uptoBulk]
  | slice elems spare => simp [Rows.uptoBulk]
  | agg parts => simp [Rows.uptoBulk]
  | iface t d => simp [Rows.uptoBulk]
  | map entries => simp [Rows.uptoBulk]
  | held h => simp [Rows.uptoBulk]
theorem bulk_part {d : DataW H} : ∀ {l : List (DataW H)}, d ∈ l → Rows.uptoBulk d ≤ Rows.uptoBulkAll l
  | [], h => by cases h
  | x :: r, h => by
    simp only [Rows.uptoBulkAll]
    rcases List.mem_cons.1 h with rfl | h
    · omega
    · have := bulk_part h; omega
theorem bulk_len : ∀ l : List (DataW H), l.length ≤ Rows.uptoBulkAll l
  | [] => by simp [Rows.uptoBulkAll]
  | x :: r => by
    have h1 := bulk_pos x
    have h2 := bulk_len r
    simp only [Rows.uptoBulkAll, List.length_cons]; omega

def KW (w : World) : Bool → Nat → Prop := fun _ b => b < w.heap.size

/-- A reading by this type is a value of this kind, of that size. -/
def Reads {α : Type} (enc : TypeId × Value → H) (w : World) (t : TypeId) (f : α → List AV) (wt : α → Nat) (Q : α → Prop) : Prop :=
  ∀ (fuel : Nat) (cs : List Value) (x : DataW H × List MemPlace), DataW.trod enc Try.prog w 0 (fun _ => true) true fuel t cs = some x →
    ∃ y : α, VRs [] (KW w) w (f y) cs ∧ wt y ≤ Rows.uptoBulk x.1 ∧ (Rows.uptoBulk x.1 ≤ 1048576 → Q y)

theorem reads_str : Reads enc w 9 (fun s : ByteArray => [.str s]) ByteArray.size fun s => s.size ≤ 1048576 := by
  intro fuel cs x h
  obtain ⟨s, rfl, rfl, _⟩ := DataW.trod_string Try.underlying9 h
  have hb : Rows.uptoBulk (DataW.lit (H := H) (.string s.data.toList)) = s.size + 1 := by simp [Rows.uptoBulk]
  refine ⟨s, ⟨_, _, rfl, by rw [VR], rfl⟩, ?_, ?_⟩
  · simp only [hb]; omega
  · simp only [hb]; omega
theorem reads_int : Reads enc w 3 (fun n : Int => [.int .i64 n]) (fun _ => 0) fun _ => True := by
  intro fuel cs x h
  obtain ⟨n, rfl, rfl, _⟩ := DataW.trod_int Try.underlying3 h
  exact ⟨n, ⟨_, _, rfl, by rw [VR], rfl⟩, Nat.zero_le _, fun _ => trivial⟩

theorem pick {α : Type} {R : Nat → α → Prop} : ∀ n, (∀ i, i < n → ∃ y, R i y) → ∃ ys : List α, ys.length = n ∧ ∀ (i : Nat) (y : α), ys[i]? = some y → R i y
  | 0, _ => ⟨[], rfl, fun i y h => by simp at h⟩
  | n + 1, h => by
    obtain ⟨ys, h1, h2⟩ := pick n fun i hi => h i (by omega)
    obtain ⟨y, hy⟩ := h n (by omega)
    refine ⟨ys ++ [y], by simp [h1], fun i z hz => ?_⟩
    rcases Nat.lt_or_ge i n with hi | hi
    · rw [List.getElem?_append_left (by omega)] at hz
      exact h2 i z hz
    · rw [List.getElem?_append_right (by omega), h1] at hz
      have hi2 : i - n = 0 := by
        rcases Nat.eq_zero_or_pos (i - n) with h3 | h3
        · exact h3
        · rw [List.getElem?_eq_none (by simp; omega)] at hz; cases hz
      rw [hi2] at hz
      injection hz with hz; subst hz
      have : i = n := by omega
      subst this; exact hy
theorem sum_bulk {α : Type} {wt : α → Nat} : ∀ (ys : List α) (es : List (DataW H × List MemPlace)), ys.length = es.length → (∀ (i : Nat) (y : α), ys[i]? = some y → ∃ e : DataW H × List MemPlace, es[i]? = some e ∧ wt y ≤ Rows.uptoBulk e.1) → (ys.map wt).sum ≤ Rows.uptoBulkAll (es.map (·.1))
  | [], es, _, _ => by simp
  | y :: ys, [], h, _ => by simp at h
  | y :: ys, e :: es, h, hh => by
    have ih := sum_bulk ys es (by simpa using h) fun i z hz => by simpa using hh (i + 1) z (by simpa using hz)
    obtain ⟨e', he, hw⟩ := hh 0 y rfl
    injection he with he; subst he
    simp only [List.map_cons, List.sum_cons, Rows.uptoBulkAll]
    omega

theorem reads_slice {α : Type} {t e : TypeId} {sz : Nat} {f : α → List AV} {wt : α → Nat} {Q : α → Prop} {wt' : List α → Nat} {Q' : List α → Prop} (he : Reads enc w e f wt Q) (ht : Try.prog.underlying t = some (.slice e)) (hsz : Try.prog.cellsOf e = sz) (h0 : 0 < sz)
    (hf : ∀ y, (f y).length = sz ∧ ∀ a ∈ f y, a.one = true)
    (hw : ∀ (ys : List α) (b : Nat), ys.length ≤ b → (ys.map wt).sum ≤ b → (b ≤ 1048576 → ∀ y ∈ ys, Q y) → wt' ys ≤ b ∧ (b ≤ 1048576 → Q' ys)) :
    Reads enc w t (fun ys : List α => [.list true sz (ys.map f)]) wt' Q' := by
  intro fuel cs x h
  rcases DataW.trod_slice ht h with ⟨rfl, rfl⟩ | ⟨a, len, cap, elems, rest, n, rfl, rfl, rfl, hb, hle, hcap, hel, hget, _, _⟩
  · obtain ⟨h1, h2⟩ := hw [] (Rows.uptoBulk (DataW.nil (H := H))) (by simp) (by simp) (by simp)
    refine ⟨[], ⟨_, _, rfl, ?_, rfl⟩, h1, h2⟩
    rw [VR]
    exact ⟨none, 0, 0, 0, rfl, Nat.le_refl _, .inl rfl, by simp [LR]⟩
  · rw [hsz] at hget
    obtain ⟨ys, hyl, hys⟩ := pick (R := fun i y => ∃ c e', w.cells? 0 (a.add (i * sz)) sz = some c ∧ elems[i]? = some e' ∧ VRs [] (KW w) w (f y) c ∧ wt y ≤ Rows.uptoBulk e'.1 ∧ (Rows.uptoBulk e'.1 ≤ 1048576 → Q y)) len fun i hi => by
      have hg := hget i hi
      have hlt : i < elems.length := by omega
      rw [List.getElem?_eq_getElem hlt, Option.bind_eq_some_iff] at hg
      obtain ⟨c, hc, hr⟩ := hg
      obtain ⟨y, hy⟩ := he _ _ _ hr
      exact ⟨y, c, elems[i], hc, List.getElem?_eq_getElem hlt, hy⟩
    have hbl : Rows.uptoBulkAll (elems.map (·.1)) ≤ Rows.uptoBulk (DataW.slice (elems.map (·.1)) (rest.map (·.1))) := by
      simp only [Rows.uptoBulk]; omega
    have hln := bulk_len (elems.map (·.1))
    rw [List.length_map, hel] at hln
    have hsum := sum_bulk (wt := wt) ys elems (by omega) fun i y hy => by
      obtain ⟨c, e', _, h2, _, h4, _⟩ := hys i y hy
      exact ⟨e', h2, h4⟩
    obtain ⟨h1, h2⟩ := hw ys (Rows.uptoBulk (DataW.slice (elems.map (·.1)) (rest.map (·.1)))) (by omega) (by omega) fun hsm y hy => by
      obtain ⟨i, hi, rfl⟩ := List.getElem_of_mem hy
      obtain ⟨c, e', _, h2, _, _, h5⟩ := hys i _ (List.getElem?_eq_getElem hi)
      refine h5 ?_
      have := bulk_part (d := e'.1) (l := elems.map (·.1)) (List.mem_map.2 ⟨e', List.mem_of_getElem? h2, rfl⟩)
      omega
    refine ⟨ys, ⟨_, _, rfl, ?_, rfl⟩, h1, h2⟩
    rw [VR]
    rcases Nat.eq_zero_or_pos len with hl0 | hlp
    · have : ys = [] := List.eq_nil_of_length_eq_zero (by omega)
      subst this
      exact ⟨some a, cap, 0, 0, by simp [hl0], by simp, .inl rfl, by simp [LR]⟩
    · obtain ⟨ab, ao, asp⟩ := a
      have hcell : ∀ (i : Nat) (y : α), ys[i]? = some y → ∃ c : List Value, VRs [] (KW w) w (f y) c ∧ c.length = sz ∧ ∀ j, j < sz → w.cell? (((⟨ab, ao, asp⟩ : Addr).add (i * sz)).add j) = c[j]? := fun i y hy => by
        obtain ⟨c, e', h3, _, h4, _⟩ := hys i y hy
        obtain ⟨_, h5, h6⟩ := World.cells?_some h3
        exact ⟨c, h4, h5, h6⟩
      have hfirst : ∃ u, w.cell? (((⟨ab, ao, asp⟩ : Addr).add (0 * sz)).add 0) = some u := by
        obtain ⟨c, h3, h4, h5⟩ := hcell 0 ys[0] (List.getElem?_eq_getElem (by omega))
        exact ⟨c[0], by rw [h5 0 h0]; exact List.getElem?_eq_getElem (by omega)⟩
      obtain ⟨u, hu⟩ := hfirst
      have hsp : asp = none := by simpa [Addr.add] using World.cell?_spot hu
      subst hsp
      have hadd : ∀ i j, ((⟨ab, ao, none⟩ : Addr).add i).add j = ⟨ab, ao + i + j, none⟩ := fun i j => by
        rcases Nat.eq_zero_or_pos i with rfl | hi <;> rcases Nat.eq_zero_or_pos j with rfl | hj <;> simp [Addr.add, Nat.ne_of_gt, *]
      rw [hadd] at hu
      have hK : ab < w.heap.size := by
        rcases Nat.lt_or_ge ab w.heap.size with h3 | h3
        · exact h3
        · have hno : w.heap[ab]? = none := by simp; omega
          simp [World.cell?, hno] at hu
      refine ⟨some ⟨ab, ao, none⟩, cap, ab, ao, by simp [hyl], by simp [hyl]; exact hle, .inr ⟨rfl, hK⟩, ?_⟩
      rw [LR_iff]
      intro i c hc
      rw [List.getElem?_map, Option.map_eq_some_iff] at hc
      obtain ⟨y, hy, rfl⟩ := hc
      obtain ⟨c, h3, h4, h5⟩ := hcell i y hy
      refine ⟨(hf y).1, CR_iff.2 fun j z hj => ?_⟩
      obtain ⟨v, hv, hvr⟩ := (VRs_iff.1 h3).2 j z hj
      have hjl : j < sz := by
        have := (List.getElem?_eq_some_iff.1 hj).1
        rw [(hf y).1] at this; exact this
      have := h5 j hjl
      rw [hadd, hv] at this
      exact ⟨v, this, VR.oneCell hvr ((hf y).2 z (List.mem_of_getElem? hj)), hvr⟩

theorem field_bulk {xs : List (DataW H × List MemPlace)} {i : Nat} {x : DataW H × List MemPlace} (h : xs[i]? = some x) : Rows.uptoBulk x.1 ≤ Rows.uptoBulk (DataW.agg (xs.map (·.1))) := by
  have := bulk_part (d := x.1) (l := xs.map (·.1)) (List.mem_map.2 ⟨x, List.mem_of_getElem? h, rfl⟩)
  simp only [Rows.uptoBulk]; omega
theorem VRs_at {K : Bool → Nat → Prop} {w : World} {v : AV} {cs : List Value} {off : Nat} (h : VRs [] K w [v] ((cs.drop off).take 1)) : ∃ u, cs[off]? = some u ∧ VR [] K w v u := by
  obtain ⟨u, us, h1, h2, h3⟩ := h
  refine ⟨u, ?_, h2⟩
  have h4 : ((cs.drop off).take 1)[0]? = some u := by rw [h1]; rfl
  rw [List.getElem?_take] at h4
  simpa using h4
theorem VRs_of {K : Bool → Nat → Prop} {w : World} {xs : List AV} {cs : List Value} (hl : cs.length = xs.length) (h : ∀ (j : Nat) (x : AV), xs[j]? = some x → ∃ u, cs[j]? = some u ∧ VR [] K w x u) : VRs [] K w xs cs := VRs_iff.2 ⟨hl, h⟩

theorem cells3 : Try.prog.cellsOf 3 = 1 := by kernel_rfl
theorem cells9 : Try.prog.cellsOf 9 = 1 := by kernel_rfl
theorem cells26 : Try.prog.cellsOf 26 = 1 := by kernel_rfl
theorem cells49 : Try.prog.cellsOf 49 = 1 := by kernel_rfl
theorem cells27 : Try.prog.cellsOf 27 = 1 := by kernel_rfl
theorem cells40 : Try.prog.cellsOf 40 = 2 := by kernel_rfl
theorem cells107 : Try.prog.cellsOf 107 = 3 := by kernel_rfl
theorem cells102 : Try.prog.cellsOf 102 = 2 := by kernel_rfl
theorem cells51 : Try.prog.cellsOf 51 = 5 := by kernel_rfl
theorem cells22 : Try.prog.cellsOf 22 = 1 := by kernel_rfl

theorem field_at {t : TypeId} {n off : Nat} {cs : List Value} {xs : List (DataW H × List MemPlace)} {i : Nat} (hl : i < xs.length) (h : DataW.trod enc Try.prog w 0 (fun _ => true) true n t ((cs.drop off).take (Try.prog.cellsOf t)) = xs[i]?) (hc : Try.prog.cellsOf t = 1)
    {α : Type} {f : α → AV} {wt : α → Nat} {Q : α → Prop} (hr : Reads enc w t (fun y => [f y]) wt Q) : ∃ y, (∃ u, cs[off]? = some u ∧ VR [] (KW w) w (f y) u) ∧ wt y ≤ Rows.uptoBulk (DataW.agg (xs.map (·.1))) ∧ (Rows.uptoBulk (DataW.agg (xs.map (·.1))) ≤ 1048576 → Q y) := by
  rw [List.getElem?_eq_getElem hl, hc] at h
  obtain ⟨y, h1, h2, h3⟩ := hr _ _ _ h
  have hb := field_bulk (List.getElem?_eq_getElem hl)
  exact ⟨y, VRs_at h1, Nat.le_trans h2 hb, fun h4 => h3 (Nat.le_trans hb h4)⟩

theorem reads_def : Reads enc w 40 DDef.av (fun _ => 0) fun d => d.name.size ≤ 1048576 := by
  intro fuel cs x h
  obtain ⟨xs, n, rfl, rfl, hl, hxl, hget⟩ := DataW.trod_struct Try.underlying40 h
  rw [cells40] at hl
  have hxl : xs.length = 2 := hxl
  obtain ⟨s, s1, _, s3⟩ := field_at (i := 0) (by omega) (hget 0 _ rfl) cells9 reads_str
  obtain ⟨a, a1, _, _⟩ := field_at (i := 1) (by omega) (hget 1 _ rfl) cells3 reads_int
  refine ⟨⟨s, a⟩, VRs_of hl fun j z hj => ?_, Nat.zero_le _, s3⟩
  match j with
  | 0 => injection hj with hj; subst hj; exact s1
  | 1 => injection hj with hj; subst hj; exact a1
  | j + 2 => simp [DDef.av] at hj
theorem reads_ref : Reads enc w 107 DRef.av (fun _ => 0) fun d => d.name.size ≤ 1048576 := by
  intro fuel cs x h
  obtain ⟨xs, n, rfl, rfl, hl, hxl, hget⟩ := DataW.trod_struct Try.underlying107 h
  rw [cells107] at hl
  have hxl : xs.length = 3 := hxl
  obtain ⟨b, b1, _, _⟩ := field_at (i := 0) (by omega) (hget 0 _ rfl) cells3 reads_int
  obtain ⟨s, s1, _, s3⟩ := field_at (i := 1) (by omega) (hget 1 _ rfl) cells9 reads_str
  obtain ⟨a, a1, _, _⟩ := field_at (i := 2) (by omega) (hget 2 _ rfl) cells3 reads_int
  refine ⟨⟨b, s, a⟩, VRs_of hl fun j z hj => ?_, Nat.zero_le _, s3⟩
  match j with
  | 0 => injection hj with hj; subst hj; exact b1
  | 1 => injection hj with hj; subst hj; exact s1
  | 2 => injection hj with hj; subst hj; exact a1
  | j + 3 => simp [DRef.av] at hj
theorem reads_line : Reads enc w 102 DLine.av (fun _ => 0) fun _ => True := by
  intro fuel cs x h
  obtain ⟨xs, n, rfl, rfl, hl, hxl, hget⟩ := DataW.trod_struct Try.underlying102 h
  rw [cells102] at hl
  have hxl : xs.length = 2 := hxl
  obtain ⟨b, b1, _, _⟩ := field_at (i := 0) (by omega) (hget 0 _ rfl) cells3 reads_int
  obtain ⟨a, a1, _, _⟩ := field_at (i := 1) (by omega) (hget 1 _ rfl) cells3 reads_int
  refine ⟨⟨b, a⟩, VRs_of hl fun j z hj => ?_, Nat.zero_le _, fun _ => trivial⟩
  match j with
  | 0 => injection hj with hj; subst hj; exact b1
  | 1 => injection hj with hj; subst hj; exact a1
  | j + 2 => simp [DLine.av] at hj

theorem reads_list {α : Type} {t e : TypeId} {sz : Nat} {f : α → List AV} {wt : α → Nat} {Q : α → Prop} (he : Reads enc w e f wt Q) (ht : Try.prog.underlying t = some (.slice e)) (hsz : Try.prog.cellsOf e = sz) (h0 : 0 < sz)
    (hf : ∀ y, (f y).length = sz ∧ ∀ a ∈ f y, a.one = true) :
    Reads enc w t (fun ys : List α => [.list true sz (ys.map f)]) List.length (fun ys => ys.length ≤ 1048576 ∧ ∀ y ∈ ys, Q y) :=
  reads_slice he ht hsz h0 hf fun _ _ h1 _ h3 => ⟨h1, fun hb => ⟨by omega, h3 hb⟩⟩

theorem reads_deck : Reads enc w 51 Deck.av (fun _ => 0) Deck.Small := by
  intro fuel cs x h
  obtain ⟨xs, n, rfl, rfl, hl, hxl, hget⟩ := DataW.trod_struct Try.underlying51 h
  rw [cells51] at hl
  have hxl : xs.length = 5 := hxl
  obtain ⟨a, a1, _, a3⟩ := field_at (i := 0) (by omega) (hget 0 _ rfl) cells9 reads_str
  obtain ⟨b, b1, _, b3⟩ := field_at (i := 1) (by omega) (hget 1 _ rfl) cells9 reads_str
  obtain ⟨c, c1, _, c3⟩ := field_at (i := 2) (by omega) (hget 2 _ rfl) cells26 (reads_list reads_def Try.underlying26 cells40 (by omega) fun y => ⟨rfl, by simp [DDef.av, AV.one]⟩)
  obtain ⟨d, d1, _, d3⟩ := field_at (i := 3) (by omega) (hget 3 _ rfl) cells49 (reads_list reads_ref Try.underlying49 cells107 (by omega) fun y => ⟨rfl, by simp [DRef.av, AV.one]⟩)
  obtain ⟨e, e1, _, e3⟩ := field_at (i := 4) (by omega) (hget 4 _ rfl) cells27 (reads_list reads_line Try.underlying27 cells102 (by omega) fun y => ⟨rfl, by simp [DLine.av, AV.one]⟩)
  refine ⟨⟨a, b, c, d, e⟩, VRs_of hl fun j z hj => ?_, Nat.zero_le _, fun hb => ⟨a3 hb, b3 hb, (c3 hb).1, (d3 hb).1, (e3 hb).1, (c3 hb).2, (d3 hb).2⟩⟩
  match j with
  | 0 => injection hj with hj; subst hj; exact a1
  | 1 => injection hj with hj; subst hj; exact b1
  | 2 => injection hj with hj; subst hj; exact c1
  | 3 => injection hj with hj; subst hj; exact d1
  | 4 => injection hj with hj; subst hj; exact e1
  | j + 5 => simp [Deck.av] at hj
theorem reads_decks : Reads enc w 22 libAV List.length SmallL := by
  intro fuel cs x h
  obtain ⟨l, h1, h2, h3⟩ := reads_list reads_deck Try.underlying22 cells51 (by omega) (fun y => ⟨rfl, by simp [Deck.av, AV.one]⟩) fuel cs x h
  exact ⟨l, h1, h2, fun hb => ⟨by have := (h3 hb).1; omega, (h3 hb).2⟩⟩
theorem reads_libs : Reads enc w 23 (fun ls : List (List Deck) => [.list true 1 (ls.map libAV)]) (fun ls => ls.flatten.length) SmallLL :=
  reads_slice reads_decks Try.underlying23 cells22 (by omega) (fun y => ⟨rfl, by simp [libAV, decksAV, AV.one]⟩) fun ys b h1 h2 h3 => ⟨by rw [List.length_flatten]; exact h2, fun hb => ⟨by omega, h3 hb⟩⟩
end
end Go.Pm
