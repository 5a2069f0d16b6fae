/- BkXO: the row's closed facts, one by one: all in one evaluation take more memory than a Lean process may have. -/
import Derived.Test.YtmcogjekcefjoaaGreatDoorCards
import Derived.ProofKit
import Derived.JoinedOf
set_option linter.unusedSimpArgs false
set_option linter.unusedVariables false
namespace Go.Proofs.YtmcogjekcefjoaaGreatDoor.builtParts
open Go Go.Proofs
set_option linter.unusedVariables false
theorem join {P : Program} {f : FuncId} {fn : Func} {s : ChangeSpec} {c : OpenClaim}
    (h_wf : (c.wf (OpenSpec.ofChange s)) = true)
    (h_laid : (laidOutB P) = true)
    (h_rowed : (mapsRowed P) = true)
    (h_reads : (fn.params.all (P.readableRec ·)) = true)
    (h_tie : (namedTie P c.named s.vars) = true)
    (h_st1 : (c.stops == []) = true)
    (h_st2 : (P.stops == []) = true)
    (h_kn1 : (c.knobs == []) = true)
    (h_kn2 : (P.stopKnobs == []) = true)
    (h_inPlace : (c.inPlace == P.inPlace f) = true)
    (h_unf : (c.unfollowed == P.unfollowed f) = true)
    (h_rcs : (c.recurses == P.recurses f) = true)
    (h_nmd : (c.named == P.varsNamed f) = true)
    (h_mps : (c.maps == (fn.params.toList ++ s.plain.varTypes P).any (P.mapsRec ·)) = true)
    (h_ifs : (c.ifaces == (fn.params.toList ++ s.plain.varTypes P).any (P.ifacesRec ·)) = true)
    (h_mpo : (c.mapsOut == P.mapsAmong fn.resultTypes.toList) = true)
    (h_lps : (c.loops == (fn.params.toList ++ s.plain.varTypes P).any (P.loopsFrom ·)) = true)
    (h_wkeys : (c.wideKeys == (fn.params.toList ++ s.plain.varTypes P ++ fn.resultTypes.toList).any (P.wideKeysFrom ·)) = true)
    (h_vars : (s.vars.all (P.varReadable ·)) = true)
    (h_res : (fn.resultTypes.all (fun t => P.readableRec t && decide (t < P.types.size))) = true)
    (h_ifo : (c.ifacesOut == fn.resultTypes.toList.any (P.ifacesRec ·)) = true)
    (h_lpo : (c.loopsOut == fn.resultTypes.toList.any (P.loopsFrom ·)) = true)
    (h_pkeys : (c.plainKeys == P.plainKeys) = true)
    (h_short : (c.shortTexts.isNone) = true)
    (h_heard : (P.stopsHeard) = true)
    (h_enter : (P.mayEnter) = true)
    (h_lft : (c.lifted == P.liftsFinal) = true)
    (h_mk : (P.make == some c.make) = true)
    (h_kds : (c.kinds == (if c.domain.isEmpty then [] else fn.params.toList.map fun t => match P.underlying t with | some (.int k) => some k | _ => none)) = true)
    (h_pnd : (c.pinned == c.pinnedBy) = true)
    (h_vld : (c.veiled == (fn.params.toList ++ s.plain.varTypes P ++ fn.resultTypes.toList).any (P.veiledRec ·)) = true)
    (h_vfit : (c.veiledFits P fn.params.toList (fn.params.toList ++ s.plain.varTypes P ++ fn.resultTypes.toList)) = true) : joinedFacts P f fn s c = true := by
  unfold joinedFacts
  simp only [Bool.and_eq_true]
  exact ⟨⟨⟨⟨⟨⟨⟨⟨⟨⟨⟨⟨⟨⟨⟨⟨⟨⟨⟨⟨⟨⟨⟨⟨⟨⟨⟨⟨⟨⟨⟨h_wf, h_laid⟩, h_rowed⟩, h_reads⟩, h_tie⟩, h_st1⟩, h_st2⟩, h_kn1⟩, h_kn2⟩, h_inPlace⟩, h_unf⟩, h_rcs⟩, h_nmd⟩, h_mps⟩, h_ifs⟩, h_mpo⟩, h_lps⟩, h_wkeys⟩, h_vars⟩, h_res⟩, h_ifo⟩, h_lpo⟩, h_pkeys⟩, h_short⟩, h_heard⟩, h_enter⟩, h_lft⟩, h_mk⟩, h_kds⟩, h_pnd⟩, h_vld⟩, h_vfit⟩
noncomputable abbrev PP : Program := Tryz.pinned.checked.prog
abbrev cc : OpenClaim := Rows.builtPartsRow
abbrev ss : ChangeSpec := Rows.builtPartsSpec
theorem fact_wf : (cc.wf (OpenSpec.ofChange ss)) = true := by kernel_rfl
theorem fact_laid : (laidOutB PP) = true := by kernel_rfl
theorem fact_rowed : (mapsRowed PP) = true := by kernel_rfl
theorem fact_reads : (Tryz.f4.params.all (PP.readableRec ·)) = true := by kernel_rfl
theorem fact_tie : (namedTie PP cc.named ss.vars) = true := by kernel_rfl
theorem fact_st1 : (cc.stops == []) = true := by kernel_rfl
theorem fact_st2 : (PP.stops == []) = true := by kernel_rfl
theorem fact_kn1 : (cc.knobs == []) = true := by kernel_rfl
theorem fact_kn2 : (PP.stopKnobs == []) = true := by kernel_rfl
theorem fact_inPlace : (cc.inPlace == PP.inPlace 4) = true := by kernel_rfl
theorem fact_unf : (cc.unfollowed == PP.unfollowed 4) = true := by kernel_rfl
theorem fact_rcs : (cc.recurses == PP.recurses 4) = true := by kernel_rfl
theorem fact_nmd : (cc.named == PP.varsNamed 4) = true := by kernel_rfl
theorem fact_mps : (cc.maps == (Tryz.f4.params.toList ++ ss.plain.varTypes PP).any (PP.mapsRec ·)) = true := by kernel_rfl
theorem fact_ifs : (cc.ifaces == (Tryz.f4.params.toList ++ ss.plain.varTypes PP).any (PP.ifacesRec ·)) = true := by kernel_rfl
theorem fact_mpo : (cc.mapsOut == PP.mapsAmong Tryz.f4.resultTypes.toList) = true := by kernel_rfl
theorem fact_lps : (cc.loops == (Tryz.f4.params.toList ++ ss.plain.varTypes PP).any (PP.loopsFrom ·)) = true := by kernel_rfl
theorem fact_wkeys : (cc.wideKeys == (Tryz.f4.params.toList ++ ss.plain.varTypes PP ++ Tryz.f4.resultTypes.toList).any (PP.wideKeysFrom ·)) = true := by kernel_rfl
theorem fact_vars : (ss.vars.all (PP.varReadable ·)) = true := by kernel_rfl
theorem fact_res : (Tryz.f4.resultTypes.all (fun t => PP.readableRec t && decide (t < PP.types.size))) = true := by kernel_rfl
theorem fact_ifo : (cc.ifacesOut == Tryz.f4.resultTypes.toList.any (PP.ifacesRec ·)) = true := by kernel_rfl
theorem fact_lpo : (cc.loopsOut == Tryz.f4.resultTypes.toList.any (PP.loopsFrom ·)) = true := by kernel_rfl
theorem fact_pkeys : (cc.plainKeys == PP.plainKeys) = true := by kernel_rfl
theorem fact_short : (cc.shortTexts.isNone) = true := by kernel_rfl
theorem fact_heard : (PP.stopsHeard) = true := by kernel_rfl
theorem fact_enter : (PP.mayEnter) = true := by kernel_rfl
theorem fact_lft : (cc.lifted == PP.liftsFinal) = true := by kernel_rfl
theorem fact_mk : (PP.make == some cc.make) = true := by kernel_rfl
theorem fact_kds : (cc.kinds == (if cc.domain.isEmpty then [] else Tryz.f4.params.toList.map fun t => match PP.underlying t with | some (.int k) => some k | _ => none)) = true := by kernel_rfl
theorem fact_pnd : (cc.pinned == cc.pinnedBy) = true := by kernel_rfl
theorem fact_vld : (cc.veiled == (Tryz.f4.params.toList ++ ss.plain.varTypes PP ++ Tryz.f4.resultTypes.toList).any (PP.veiledRec ·)) = true := by kernel_rfl
theorem fact_vfit : (cc.veiledFits PP Tryz.f4.params.toList (Tryz.f4.params.toList ++ ss.plain.varTypes PP ++ Tryz.f4.resultTypes.toList)) = true := by kernel_rfl
theorem facts : joinedFacts Tryz.pinned.checked.prog 4 Tryz.f4 Rows.builtPartsSpec Rows.builtPartsRow = true :=
  join (P := PP) (f := 4) (fn := Tryz.f4) (s := ss) (c := cc) fact_wf fact_laid fact_rowed fact_reads fact_tie fact_st1 fact_st2 fact_kn1 fact_kn2 fact_inPlace fact_unf fact_rcs fact_nmd fact_mps fact_ifs fact_mpo fact_lps fact_wkeys fact_vars fact_res fact_ifo fact_lpo fact_pkeys fact_short fact_heard fact_enter fact_lft fact_mk fact_kds fact_pnd fact_vld fact_vfit
end Go.Proofs.YtmcogjekcefjoaaGreatDoor.builtParts
