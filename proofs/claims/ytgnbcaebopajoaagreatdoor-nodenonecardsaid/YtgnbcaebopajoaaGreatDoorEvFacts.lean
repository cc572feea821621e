/- The row's closed facts, one by one. -/
import Derived.Test.YtgnbcaebopajoaaGreatDoorRows
import Derived.JoinedOf
import Derived.Test.YtgnbcaebopajoaaGreatDoorEvClos
namespace Go.Proofs.YtgnbcaebopajoaaGreatDoor
theorem fact0 : (Rows.nodeNoneRow.wf (OpenSpec.ofChange Rows.nodeNoneSpec)) = true := by kernel_rfl
theorem fact1 : (laidOutB Tryz.prog) = true := by kernel_rfl
theorem fact2 : (mapsRowed Tryz.prog) = true := by kernel_rfl
theorem fact3 : (Tryz.f3.params.all (Tryz.prog.readableRec ·)) = true := by kernel_rfl
theorem fact4 : (namedTie Tryz.prog Rows.nodeNoneRow.named Rows.nodeNoneSpec.vars) = true := by kernel_rfl
theorem fact5 : ((Rows.nodeNoneRow.stops == [])) = true := by kernel_rfl
theorem fact6 : ((Tryz.prog.stops == [])) = true := by kernel_rfl
theorem fact7 : ((Rows.nodeNoneRow.knobs == [])) = true := by kernel_rfl
theorem fact8 : ((Tryz.prog.stopKnobs == [])) = true := by kernel_rfl
theorem fact9 : ((Rows.nodeNoneRow.inPlace == Tryz.prog.inPlace 3)) = true := by
  unfold Program.inPlace
  rw [closure3]
  kernel_rfl
theorem fact10 : ((Rows.nodeNoneRow.unfollowed == Tryz.prog.unfollowed 3)) = true := by
  unfold Program.unfollowed
  rw [closure3]
  kernel_rfl
theorem unf3 : Tryz.prog.unfollowed 3 = true := by
  unfold Program.unfollowed
  rw [closure3]
  kernel_rfl
theorem fact11 : ((Rows.nodeNoneRow.recurses == Tryz.prog.recurses 3)) = true := by
  unfold Program.recurses
  rw [unf3]
  rfl
theorem fact12 : ((Rows.nodeNoneRow.named == Tryz.prog.varsNamed 3)) = true := by
  unfold Program.varsNamed
  rw [closure3]
  kernel_rfl
theorem fact13 : ((Rows.nodeNoneRow.maps == (Tryz.f3.params.toList ++ Rows.nodeNoneSpec.plain.varTypes Tryz.prog).any (Tryz.prog.mapsRec ·))) = true := by kernel_rfl
theorem fact14 : ((Rows.nodeNoneRow.ifaces == (Tryz.f3.params.toList ++ Rows.nodeNoneSpec.plain.varTypes Tryz.prog).any (Tryz.prog.ifacesRec ·))) = true := by kernel_rfl
theorem fact15 : ((Rows.nodeNoneRow.mapsOut == Tryz.prog.mapsAmong Tryz.f3.resultTypes.toList)) = true := by kernel_rfl
theorem fact16 : ((Rows.nodeNoneRow.loops == (Tryz.f3.params.toList ++ Rows.nodeNoneSpec.plain.varTypes Tryz.prog).any (Tryz.prog.loopsFrom ·))) = true := by kernel_rfl
theorem fact17 : ((Rows.nodeNoneRow.wideKeys == (Tryz.f3.params.toList ++ Rows.nodeNoneSpec.plain.varTypes Tryz.prog ++ Tryz.f3.resultTypes.toList).any (Tryz.prog.wideKeysFrom ·))) = true := by kernel_rfl
theorem fact18 : (Rows.nodeNoneSpec.vars.all (Tryz.prog.varReadable ·)) = true := by kernel_rfl
theorem fact19 : (Tryz.f3.resultTypes.all (fun t => Tryz.prog.readableRec t && decide (t < Tryz.prog.types.size))) = true := by kernel_rfl
theorem fact20 : ((Rows.nodeNoneRow.ifacesOut == Tryz.f3.resultTypes.toList.any (Tryz.prog.ifacesRec ·))) = true := by kernel_rfl
theorem fact21 : ((Rows.nodeNoneRow.loopsOut == Tryz.f3.resultTypes.toList.any (Tryz.prog.loopsFrom ·))) = true := by kernel_rfl
theorem fact22 : ((Rows.nodeNoneRow.plainKeys == Tryz.prog.plainKeys)) = true := by kernel_rfl
theorem fact23 : (Rows.nodeNoneRow.shortTexts.isNone) = true := by kernel_rfl
theorem fact24 : (Tryz.prog.stopsHeard) = true := by kernel_rfl
theorem fact25 : (Tryz.prog.mayEnter) = true := by kernel_rfl
theorem fact26 : ((Rows.nodeNoneRow.lifted == Tryz.prog.liftsFinal)) = true := by kernel_rfl
theorem fact27 : ((Tryz.prog.make == some Rows.nodeNoneRow.make)) = true := by kernel_rfl
theorem fact28 : ((Rows.nodeNoneRow.kinds == (if Rows.nodeNoneRow.domain.isEmpty then [] else Tryz.f3.params.toList.map fun t => match Tryz.prog.underlying t with | some (.int k) => some k | _ => none))) = true := by kernel_rfl
theorem fact29 : ((Rows.nodeNoneRow.pinned == Rows.nodeNoneRow.pinnedBy)) = true := by kernel_rfl
theorem fact30 : ((Rows.nodeNoneRow.veiled == (Tryz.f3.params.toList ++ Rows.nodeNoneSpec.plain.varTypes Tryz.prog ++ Tryz.f3.resultTypes.toList).any (Tryz.prog.veiledRec ·))) = true := by kernel_rfl
theorem fact31 : (Rows.nodeNoneRow.veiledFits Tryz.prog Tryz.f3.params.toList (Tryz.f3.params.toList ++ Rows.nodeNoneSpec.plain.varTypes Tryz.prog ++ Tryz.f3.resultTypes.toList)) = true := by kernel_rfl
end Go.Proofs.YtgnbcaebopajoaaGreatDoor
