/- The law, reckoned by the kernel. -/
import Derived.Test.YtgnbcaebopajoaaGreatDoorEvChk
import Derived.KernelRfl
namespace Go.Ev
open Go.Proofs

/-- Memory as the law finds it: the library's table, and a number of the library's of which nothing is known. -/
noncomputable def om0 : Om := ⟨2, 10, (Tr.nil.set 0 (some (.row 400 (([0, 1, 28, 2, 29, 14, 24, 3, 30, 22, 20, 15, 25, 17, 4, 8, 31, 27, 13, 23, 21, 19, 16, 7, 26, 12, 18, 6, 11, 5, 10, 9] : List Int).map fun n => .int .u8 n) true none))).set 1 (some (.row 3 [.chan none] true none))⟩

def saysTrue : Option (Res × Om) → Bool
  | some (.ret (.bool true), _) => true
  | _ => false

theorem saysTrue_eq {x : Option (Res × Om)} (h : saysTrue x = true) : ∃ Ω, x = some (.ret (.bool true), Ω) := by
  unfold saysTrue at h
  split at h
  · exact ⟨_, rfl⟩
  · cases h

theorem law_true : saysTrue (runC 100000 40 3 [] om0) = true := by kernel_rfl

end Go.Ev
