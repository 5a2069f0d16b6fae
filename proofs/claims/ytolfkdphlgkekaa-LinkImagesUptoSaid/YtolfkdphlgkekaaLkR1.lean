/- The law LinkImages answers true at every input, and each argument reads behind the call as it read before. Conditions: what the arguments hold is of bulk at most 1048576 (the given second form); no other. -/
import Derived.Test.YtolfkdphlgkekaaGg
namespace Go.Proofs.Ytolfkdphlgkekaa.linkImages
open Go Go.Proofs Go.Pm Go.ChangeShapes Go.WideShapes Go.ChangeAt Go.RowKit
set_option linter.unusedVariables false

theorem own : ownKnob Try.prog.godebug = none := by kernel_rfl
theorem laidOut : laidOutB Try.prog = true := by kernel_rfl

/-- What a reading of arguments alone leaves: below the heap's old end nothing turned. -/
theorem post_below {H : Type} {enc : TypeId × Value → H} {P : Program} {f : Func} {s : ChangeSpec} {W W' : World} {args : Array Value} {v : Value} {ds gs : List (DataW H)} {before pa pv : List MemPlace} {apart fresh handsOn again : Bool}
    (hW : DataW.Whole enc P f.params.toList s.vars apart W args.toList ds gs before)
    (hres : ∀ (b : Nat) (sp : Nat → Bool) (hd : Bool), DataW.TrodAll enc P W' b sp hd f.resultTypes.toList (v.resultList f.resultTypes.size) (s.fn H (ds ++ gs)).results [])
    (hargs : ∀ sp : Nat → Bool, (∀ p ∈ before, sp p.block = true) → DataW.TrodAll enc P W' 0 sp true f.params.toList args.toList (s.fn H (ds ++ gs)).args pa)
    (hvars : ∀ sp : Nat → Bool, (∀ p ∈ before, sp p.block = true) → DataW.TrodVars enc P W' sp s.vars (s.fn H (ds ++ gs)).vars pv)
    (hps : before = pa ++ pv) (hb : Below W.heap.size W W')
    (hok : ∀ (j : Nat) (t : TypeId) (r : Value), f.resultTypes[j]? = some t → (v.resultList f.resultTypes.size)[j]? = some r → Value.okWide P W' .any 0 t r) :
    s.post enc P f apart fresh handsOn again W args v W' := by
  have hlt := hW.lt
  have hold : ∀ p ∈ before, (fun b => decide (b < W.heap.size)) p.block = true := fun p hp => by simpa using hlt p hp
  refine ⟨ds, gs, before, [], pa, pv, hW, hres _ _ _, hargs _ hold, hvars _ hold, World.keptBut_mono (fun p hp => ⟨hp, ?_⟩) (hb.frame (· ∈ before)), fun _ => ?_⟩
  · rw [hps, List.mem_append] at hp
    exact Or.inr hp
  · obtain ⟨_, _, _, _, _, hz, hn⟩ := hW
    refine ⟨hok, _, _, ([] ++ pa) ++ pv, ⟨[] ++ pa, pv, trodAll_append (hargs _ (fun _ _ => rfl)) (hres _ _ _), hvars _ (fun _ _ => rfl), rfl, ?_, ?_⟩, ?_⟩
    · intro b off hp
      have hm : MemPlace.cell b off ∈ before := by rw [hps]; simpa using hp
      rw [hb.frozen (hlt _ hm)]
      exact hz b off hm
    · intro ha
      have := hn ha
      rw [hps] at this
      simpa using this
    · intro p hp _
      rw [hps]
      simpa using hp

theorem one_cell {w : World} {a : Option Addr} {len cap : Nat} {x : AV} (h : VRs [] (KW w) w [x] (Value.slice a len cap).cells.toList) : VR [] (KW w) w x (.slice a len cap) := by
  obtain ⟨u, us, h1, h2, h3⟩ := h
  have e : (Value.slice a len cap).cells.toList = [.slice a len cap] := rfl
  rw [e] at h1
  injection h1 with h1 _
  rw [h1]; exact h2

theorem cells29 : Try.prog.cellsOf 29 = 5 := by kernel_rfl
theorem reads_img {H : Type} {enc : TypeId × Value → H} {w : World} : Reads enc w 29 Img.av (fun _ => 0) fun x => x.code.size ≤ 1048576 ∧ (x.defs.length ≤ 1048576 ∧ ∀ d ∈ x.defs, d.name.size ≤ 1048576) ∧ x.lines.length ≤ 1048576 ∧ (x.names.length ≤ 1048576 ∧ ∀ d ∈ x.names, d.name.size ≤ 1048576) := by
  intro fuel cs x h
  obtain ⟨xs, n, rfl, rfl, hl, hxl, hget⟩ := DataW.trod_struct Try.underlying29 h
  rw [cells29] at hl
  have hxl : xs.length = 5 := hxl
  obtain ⟨a, a1, _, _⟩ := field_at (i := 0) (by omega) (hget 0 _ rfl) cells3 reads_int
  obtain ⟨b, b1, _, b3⟩ := field_at (i := 1) (by omega) (hget 1 _ rfl) cells9 reads_str
  obtain ⟨c, c1, _, c3⟩ := field_at (i := 2) (by omega) (hget 2 _ rfl) cells26 (reads_list reads_def Try.underlying26 cells40 (by omega) fun y => ⟨rfl, by simp [DDef.av, AV.one]⟩)
  obtain ⟨d, d1, _, d3⟩ := field_at (i := 3) (by omega) (hget 3 _ rfl) cells27 (reads_list reads_line Try.underlying27 cells102 (by omega) fun y => ⟨rfl, by simp [DLine.av, AV.one]⟩)
  obtain ⟨e, e1, _, e3⟩ := field_at (i := 4) (by omega) (hget 4 _ rfl) cells26 (reads_list reads_def Try.underlying26 cells40 (by omega) fun y => ⟨rfl, by simp [DDef.av, AV.one]⟩)
  refine ⟨⟨a, b, c, d, e⟩, VRs_of hl fun j z hj => ?_, Nat.zero_le _, fun hb => ⟨b3 hb, c3 hb, (d3 hb).1, e3 hb⟩⟩
  match j with
  | 0 => injection hj with hj; subst hj; exact a1
  | 1 => injection hj with hj; subst hj; exact b1
  | 2 => injection hj with hj; subst hj; exact c1
  | 3 => injection hj with hj; subst hj; exact d1
  | 4 => injection hj with hj; subst hj; exact e1
  | j + 5 => simp [Img.av] at hj

set_option maxRecDepth 100000 in
theorem contract (H : Type) (enc : TypeId × Value → H) (W : World) (base : Nat) (args : Array Value) (ds gs : List (DataW H)) (before : List MemPlace)
    (hval : ∀ (j : Nat) t v, Try.f5.params[j]? = some t → args[j]? = some v → Value.okWide Try.prog W .any base t v)
    (hW : DataW.Whole enc Try.prog Try.f5.params.toList Rows.linkImagesSpec.vars false W args.toList ds gs before) (hk : Rows.uptoSmall H (ds ++ gs) = true) :
    Calls Try.prog 5 args W fun e W' => ∃ v, e = .returned v ∧ Rows.linkImagesSpec.post enc Try.prog Try.f5 false true false false W args v W' := by
  have hW' := hW
  obtain ⟨p, q, hA0, hV, rfl, hfz, hnd⟩ := hW
  have hA : DataW.TrodAll enc Try.prog W 0 (fun _ => true) true Try.f5.params.toList args.toList ds p := hA0
  rw [Try.params5] at hA hval
  obtain ⟨v0, v1, d0, d1, p0, p1, rfl, rfl, rfl, h0, h1⟩ := trodAll_two hA
  obtain ⟨rfl, rfl⟩ := trodVars_none hV
  obtain ⟨a1, rfl, rfl, rfl, w1⟩ := open_int Try.underlying3 (hval 1 3 v1 rfl rfl) h1
  obtain ⟨us, rfl, _⟩ := okWide_struct Try.underlying29 (hval 0 29 v0 rfl rfl)
  have h0k := h0
  obtain ⟨f0, h0⟩ := h0
  obtain ⟨x, x1, _, x3⟩ := reads_img f0 _ _ h0
  have hbulk : Rows.uptoBulkAll ([d0, DataW.lit (Lit.int IntKind.i64 a1)] ++ []) ≤ 1048576 := of_decide_eq_true hk
  simp only [List.append_nil, Rows.uptoBulkAll] at hbulk
  obtain ⟨y1, ⟨y2, y3⟩, y4, y5, y6⟩ := x3 (by simp only; omega)
  simp only [List.append_nil] at hW'
  have hc := call5 x ⟨by omega, by omega, by omega, by omega, y3, y6⟩ y4 y2 y5 a1
  have hv : VRs [] (KW W) W [.agg x.av, .int .i64 a1] [.agg us, .int .i64 a1] :=
    ⟨_, _, rfl, by rw [VR]; exact ⟨us, rfl, x1⟩, _, _, rfl, by rw [VR], rfl⟩
  refine (hc.2 (KW W) W _ (fun p b h => h) hv).mono ?_
  rintro e W' ⟨K', out, rfl, _, hg, _, _, hout⟩
  obtain ⟨u, rfl, hu⟩ := hout
  rw [VR] at hu
  subst hu
  have hbelow : Below W.heap.size W W' := (Below.refl _ _).grown hg (Nat.le_refl _) (fun k hk => by cases hk)
  have hlt : ∀ x ∈ p0, x.block < W.heap.size := fun x hx => hW'.lt x (by simpa using hx)
  refine ⟨_, rfl, post_below (pa := p0 ++ []) (pv := []) hW' (fun _ _ _ => (trodAll_cons_mk (shut_bool Try.underlying4 _) trodAll_mk0)) (fun sp hsp => ?_) (fun _ _ => rfl) (by simp) hbelow (ok_one (by kernel_rfl) rfl (okWide_bool_mk Try.underlying4 _))⟩
  exact trodAll_mk2
    (WideElems.Trod_stays laidOut (by kernel_rfl) (of_decide_eq_true (by kernel_rfl)) h0k (fun x hx => hbelow.same (hlt x hx)) (fun x hx => hsp x (by simpa using hx)))
    (shut_int Try.underlying3 w1)

set_option maxRecDepth 100000 in
theorem lifted (os : Os) (started : os.Started) (H : Type) (enc : TypeId × Value → H) (F : Stop.Interp) :
    ReturnsInHanded {} Try.checked os 5 .any ((Rows.OpenSpec.upto Rows.linkImagesSpec).pre6 enc Try.prog Try.f5 Rows.linkImagesUptoRow.domain false) (((Rows.OpenSpec.upto Rows.linkImagesSpec).at F).post enc Try.prog Try.f5 false true false false) := by
  refine returnsInHanded_of_cond (C := Try.checked) (s := Rows.OpenSpec.upto Rows.linkImagesSpec) (k := Rows.uptoSmall) rfl own started (by kernel_rfl) Try.func5
    (OpenSpec.witness (enc := enc) (C := Try.checked) (s := Rows.OpenSpec.upto Rows.linkImagesSpec) (k := Rows.uptoSmall) rfl false ⟨#[], #[.agg #[.int .i64 0, .string ⟨#[]⟩, .slice none 0 0, .slice none 0 0, .slice none 0 0], .int .i64 0], []⟩ 8 (by kernel_rfl) (by kernel_rfl) (by kernel_rfl)
      (x := ([.agg [.lit (.int .i64 0), .lit (.string []), .nil, .nil, .nil], .lit (.int .i64 0)], [], [])) (by kernel_rfl) rfl (by kernel_rfl)) ?_
  intro W base args ds gs before hval hW _ hk _
  exact contract H enc W base args ds gs before hval hW hk

theorem over : Rows.linkImagesUptoRow.holds Try.pinned (Rows.OpenSpec.upto Rows.linkImagesSpec) :=
  OpenClaim.holds_of_cond 5 Try.f5 rfl rfl rfl rfl rfl rfl rfl ⟨rfl, rfl, rfl, rfl, rfl⟩ rfl rfl rfl rfl rfl (by kernel_rfl) Try.func5 (by kernel_rfl)
    (of_decide_eq_true (by kernel_rfl)) (by unfold Func.isWrapper; first | (rw [if_pos (by decide +kernel)]; kernel_rfl) | (rw [if_neg (by decide +kernel)]; exact ⟨rfl, rfl⟩))
    (fun os started H enc _ F => lifted os started H enc F)

theorem linkImages_holds : Rows.LinkImagesUptoSaid := over
#print axioms linkImages_holds
end Go.Proofs.Ytolfkdphlgkekaa.linkImages
