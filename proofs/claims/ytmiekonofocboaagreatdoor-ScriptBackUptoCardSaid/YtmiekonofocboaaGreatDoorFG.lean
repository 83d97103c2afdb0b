/- What the row asks of the program by itself, fact by fact. (Written by gen/facts.py.) -/
import Derived.Test.YtmiekonofocboaaGreatDoorM0
namespace Go.Proofs.YtmiekonofocboaaGreatDoor.FG
open Go Go.Eng Go.Proofs Go.Proofs.YtmiekonofocboaaGreatDoor
open Go.ChangeShapes Go.WideShapes Go.ChangeAt Go.RowKit
set_option linter.unusedVariables false
set_option linter.unusedSectionVars false
set_option maxRecDepth 100000
noncomputable abbrev fP : Program := Tryz.pinned.checked.prog
noncomputable abbrev fS : ChangeSpec := (Rows.OpenSpec.upto Rows.scriptBackSpec).bare
noncomputable abbrev fC : OpenClaim := Rows.scriptBackUptoRow
theorem fact0 : (fC.wf (OpenSpec.ofChange fS)) = true := by kernel_rfl
theorem fact1 : (laidOutB fP) = true := by kernel_rfl
theorem fact2 : (mapsRowed fP) = true := by kernel_rfl
theorem fact3 : (Tryz.f6.params.all (fP.readableRec ·)) = true := by kernel_rfl
theorem fact4 : (namedTie fP fC.named fS.vars) = true := by kernel_rfl
theorem fact5 : ((fC.stops == [])) = true := by kernel_rfl
theorem fact6 : ((fP.stops == [])) = true := by kernel_rfl
theorem fact7 : ((fC.knobs == [])) = true := by kernel_rfl
theorem fact8 : ((fP.stopKnobs == [])) = true := by kernel_rfl
theorem fact9 : ((fC.inPlace == fP.inPlace 6)) = true := by kernel_rfl
theorem fact10 : ((fC.unfollowed == fP.unfollowed 6)) = true := by kernel_rfl
theorem fact11 : ((fC.recurses == fP.recurses 6)) = true := by kernel_rfl
theorem fact12 : ((fC.named == fP.varsNamed 6)) = true := by kernel_rfl
theorem fact13 : ((fC.maps == (Tryz.f6.params.toList ++ fS.plain.varTypes fP).any (fP.mapsRec ·))) = true := by kernel_rfl
theorem fact14 : ((fC.ifaces == (Tryz.f6.params.toList ++ fS.plain.varTypes fP).any (fP.ifacesRec ·))) = true := by kernel_rfl
theorem fact15 : ((fC.mapsOut == fP.mapsAmong Tryz.f6.resultTypes.toList)) = true := by kernel_rfl
theorem fact16 : ((fC.loops == (Tryz.f6.params.toList ++ fS.plain.varTypes fP).any (fP.loopsFrom ·))) = true := by kernel_rfl
theorem fact17 : ((fC.wideKeys == (Tryz.f6.params.toList ++ fS.plain.varTypes fP ++ Tryz.f6.resultTypes.toList).any (fP.wideKeysFrom ·))) = true := by kernel_rfl
theorem fact18 : (fS.vars.all (fP.varReadable ·)) = true := by kernel_rfl
theorem fact19 : (Tryz.f6.resultTypes.all (fun t => fP.readableRec t && decide (t < fP.types.size))) = true := by kernel_rfl
theorem fact20 : ((fC.ifacesOut == Tryz.f6.resultTypes.toList.any (fP.ifacesRec ·))) = true := by kernel_rfl
theorem fact21 : ((fC.loopsOut == Tryz.f6.resultTypes.toList.any (fP.loopsFrom ·))) = true := by kernel_rfl
theorem fact22 : ((fC.plainKeys == fP.plainKeys)) = true := by kernel_rfl
theorem fact23 : (fC.shortTexts.isNone) = true := by kernel_rfl
theorem fact24 : (fP.stopsHeard) = true := by kernel_rfl
theorem fact25 : (fP.mayEnter) = true := by kernel_rfl
theorem fact26 : ((fC.lifted == fP.liftsFinal)) = true := by kernel_rfl
theorem fact27 : ((fP.make == some fC.make)) = true := by kernel_rfl
theorem fact28 : ((fC.kinds == (if fC.domain.isEmpty then [] else Tryz.f6.params.toList.map fun t => match fP.underlying t with | some (.int k) => some k | _ => none))) = true := by kernel_rfl
theorem fact29 : ((fC.pinned == fC.pinnedBy)) = true := by kernel_rfl
theorem fact30 : ((fC.veiled == (Tryz.f6.params.toList ++ fS.plain.varTypes fP ++ Tryz.f6.resultTypes.toList).any (fP.veiledRec ·))) = true := by kernel_rfl
theorem fact31 : (fC.veiledFits fP Tryz.f6.params.toList (Tryz.f6.params.toList ++ fS.plain.varTypes fP ++ Tryz.f6.resultTypes.toList)) = true := by kernel_rfl
theorem facts : joinedFacts fP 6 Tryz.f6 fS fC = true := by
  unfold joinedFacts
  simp only [Bool.and_eq_true]
  exact ⟨⟨⟨⟨⟨⟨⟨⟨⟨⟨⟨⟨⟨⟨⟨⟨⟨⟨⟨⟨⟨⟨⟨⟨⟨⟨⟨⟨⟨⟨⟨fact0, fact1⟩, fact2⟩, fact3⟩, fact4⟩, fact5⟩, fact6⟩, fact7⟩, fact8⟩, fact9⟩, fact10⟩, fact11⟩, fact12⟩, fact13⟩, fact14⟩, fact15⟩, fact16⟩, fact17⟩, fact18⟩, fact19⟩, fact20⟩, fact21⟩, fact22⟩, fact23⟩, fact24⟩, fact25⟩, fact26⟩, fact27⟩, fact28⟩, fact29⟩, fact30⟩, fact31⟩
end Go.Proofs.YtmiekonofocboaaGreatDoor.FG
