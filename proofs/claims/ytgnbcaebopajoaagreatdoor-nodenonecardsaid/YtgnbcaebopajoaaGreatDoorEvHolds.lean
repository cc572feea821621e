/- The row holds. -/
import Derived.Test.YtgnbcaebopajoaaGreatDoorEvLift
import Derived.Test.YtgnbcaebopajoaaGreatDoorEvFacts
namespace Go.Proofs.YtgnbcaebopajoaaGreatDoor
open Go.ChangeShapes Go.WideShapes Go.RowKit Go.Ev

theorem andI {a b : Bool} (ha : a = true) (hb : b = true) : (a && b) = true := by rw [ha, hb]; rfl

set_option maxRecDepth 100000 in
theorem closed3 : joinedFacts Tryz.prog 3 Tryz.f3 Rows.nodeNoneSpec Rows.nodeNoneRow = true := by
  unfold joinedFacts
  exact (andI (andI (andI (andI (andI (andI (andI (andI (andI (andI (andI (andI (andI (andI (andI (andI (andI (andI (andI (andI (andI (andI (andI (andI (andI (andI (andI (andI (andI (andI (andI fact0 fact1) fact2) fact3) fact4) fact5) fact6) fact7) fact8) fact9) fact10) fact11) fact12) fact13) fact14) fact15) fact16) fact17) fact18) fact19) fact20) fact21) fact22) fact23) fact24) fact25) fact26) fact27) fact28) fact29) fact30) fact31)

theorem named3 : Tryz.prog.funcNamed "antipode/antipodelaw27.NodeNone" = some 3 := by kernel_rfl
theorem notInstance : Tryz.f3.isInstance Tryz.prog Rows.nodeNoneRow.origin Rows.nodeNoneRow.targs := of_decide_eq_true (by kernel_rfl)
theorem notWrapper : Tryz.f3.isWrapper Tryz.prog Rows.nodeNoneRow.wrapper Rows.nodeNoneRow.mainSum := by
  unfold Func.isWrapper
  rw [if_neg (of_decide_eq_false (by kernel_rfl))]
  exact ⟨rfl, rfl⟩

set_option maxRecDepth 100000 in
theorem law_holds : Rows.NodeNoneSaid :=
  OpenClaim.holds_of_wide 3 Tryz.f3 rfl rfl rfl rfl rfl rfl rfl ⟨rfl, rfl, rfl, rfl, rfl⟩ rfl rfl rfl rfl rfl named3 Tryz.func3 closed3
    notInstance notWrapper (fun os started H enc _ => law_lifted os started H enc)

end Go.Proofs.YtgnbcaebopajoaaGreatDoor
