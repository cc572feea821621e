/- The law antipodelaw27.NodeNone returns true, in every world that fits the card: the library's table math/bits.deBruijn32tab holds what the program's text lays, internal/bytealg.MaxLen holds whatever int64; the card ties the table to the program's text. No other condition. -/
import Derived.Test.YtgnbcaebopajoaaGreatDoorEvHolds
import Derived.Test.YtgnbcaebopajoaaGreatDoorCards
import Derived.Test.YtgnbcaebopajoaaGreatDoorTie
import Derived.SevenTiedAt
namespace Go.Proofs.YtgnbcaebopajoaaGreatDoor
open Go

theorem noneGoes : (Tryz.prog.funcs.any Func.goes) = false := by kernel_rfl

theorem goes_at (g : Nat) : (Tryz.prog.funcs[g]?).any Func.goes = false := by
  cases h : Tryz.prog.funcs[g]? with
  | none => rfl
  | some fn =>
    have hm : fn ∈ Tryz.prog.funcs := Array.mem_of_getElem? h
    have := noneGoes
    rw [Array.any_eq_false] at this
    obtain ⟨i, hi, e⟩ := Array.getElem_of_mem hm
    have h2 := this i hi
    rw [e] at h2
    simpa using h2

theorem goes3 : Tryz.prog.goes 3 = false := by
  unfold Program.goes
  rw [noneGoes, Bool.and_false, Bool.or_false, List.any_eq_false]
  intro g _
  rw [goes_at g]
  decide

theorem goesFrom3 : Tryz.prog.goesFrom "antipode/antipodelaw27.NodeNone" = false := by
  unfold Program.goesFrom
  rw [named3, Option.any_some, goes3]

theorem goesAt3 : Tryz.prog.goesAt .entering "antipode/antipodelaw27.NodeNone" = false := by
  unfold Program.goesAt
  rw [goesFrom3]
  rfl

theorem goesBy3 : false = Rows.nodeNoneRow.goesBy Tryz.prog := by
  unfold OpenClaim.goesBy
  rw [show Rows.nodeNoneRow.start = .entering from rfl, show Rows.nodeNoneRow.func = "antipode/antipodelaw27.NodeNone" from rfl, goesAt3]

theorem wfText : Rows.nodeNoneRow.wfByText (OpenSpec.ofChange Rows.nodeNoneSpec) = true := by kernel_rfl
theorem mainIs3 : Tryz.prog.mainIs = some (true, "b2218258619587af862a36aff43ef723b48ea7262b1e6c2bd9a95afe385d16dd".toList) := by kernel_rfl
theorem looks3 : true = Tryz.prog.looks [] := by kernel_rfl

set_option maxRecDepth 100000 in
theorem nodeNone_card : Rows.NodeNoneCardSaid :=
  Claim7.holds_tied_plain_at .later [] [.data] true (true, "b2218258619587af862a36aff43ef723b48ea7262b1e6c2bd9a95afe385d16dd") true
    law_holds (fun _ h => by cases h) wfText (fun _ h => by cases h) nodeNone_row_tie rfl ⟨rfl, rfl⟩ mainIs3 rfl
    (fun f fn hf hfn => by
      obtain rfl : f = 3 := Option.some.inj (named3.symm.trans hf) |>.symm
      obtain rfl : fn = Tryz.f3 := (Option.some.inj (Tryz.func3.symm.trans hfn)).symm
      exact ⟨looks3, fun j t ht => by
        rw [Tryz.params3] at ht
        simp at ht⟩)
    goesBy3

end Go.Proofs.YtgnbcaebopajoaaGreatDoor
