/- The check of the one schema that the law lays out, reckoned once by the kernel. -/
import Derived.Test.YtgnbcaebopajoaaGreatDoorEvSub
import Derived.Test.YtgnbcaebopajoaaGreatDoorEvMemo
import Derived.KernelRfl
namespace Go.Ev
open Go.Proofs

/-- The one schema, as the evaluator names its rows; the library's table; the library's number. -/
noncomputable def memoC : Memo where
  n0 := 30
  args := [.agg ⟨[.slice (some ⟨22, 0, none⟩) 1 1, .slice (some ⟨20, 0, none⟩) 3 3]⟩]
  res := .int .i64 0
  rows := [
    (0, 400, [.int .u8 0, .int .u8 1, .int .u8 28, .int .u8 2, .int .u8 29, .int .u8 14, .int .u8 24, .int .u8 3, .int .u8 30, .int .u8 22, .int .u8 20, .int .u8 15, .int .u8 25, .int .u8 17, .int .u8 4, .int .u8 8, .int .u8 31, .int .u8 27, .int .u8 13, .int .u8 23, .int .u8 21, .int .u8 19, .int .u8 16, .int .u8 7, .int .u8 26, .int .u8 12, .int .u8 18, .int .u8 6, .int .u8 11, .int .u8 5, .int .u8 10, .int .u8 9]),
    (1, 3, [.chan none]),
    (22, 3, [.int .i64 0]),
    (20, 92, [.string ⟨⟨[84]⟩⟩, .slice (some ⟨17, 0, none⟩) 4 4, .int .i64 1, .int .i64 0, .int .i64 0, .slice (some ⟨23, 0, none⟩) 1 1, .slice none 0 0, .slice none 0 0, .int .i64 0, .int .i64 0, .int .i64 0, .string ⟨⟨[71]⟩⟩, .slice (some ⟨18, 0, none⟩) 3 3, .int .i64 0, .int .i64 1, .int .i64 0, .slice (some ⟨24, 0, none⟩) 1 1, .slice none 0 0, .slice none 0 0, .int .i64 0, .int .i64 0, .int .i64 0, .string ⟨⟨[72]⟩⟩, .slice (some ⟨19, 0, none⟩) 2 2, .int .i64 0, .int .i64 2, .int .i64 0, .slice (some ⟨25, 0, none⟩) 1 1, .slice none 0 0, .slice none 0 0, .int .i64 0, .int .i64 0, .int .i64 0]),
    (17, 185, [.string ⟨⟨[82]⟩⟩, .int .i64 2, .bool false, .string ⟨⟨[75]⟩⟩, .int .i64 2, .bool false, .string ⟨⟨[86]⟩⟩, .int .i64 3, .bool true, .string ⟨⟨[78]⟩⟩, .int .i64 2, .bool true]),
    (23, 3, [.int .i64 1]),
    (18, 185, [.string ⟨⟨[75]⟩⟩, .int .i64 3, .bool false, .string ⟨⟨[78]⟩⟩, .int .i64 2, .bool false, .string ⟨⟨[66]⟩⟩, .int .i64 1, .bool true]),
    (24, 3, [.int .i64 1]),
    (19, 185, [.string ⟨⟨[66]⟩⟩, .int .i64 1, .bool false, .string ⟨⟨[78]⟩⟩, .int .i64 2, .bool true]),
    (25, 3, [.int .i64 1])]

def saysNought : Option (Res × Om) → Bool
  | some (.ret (.int .i64 0), _) => true
  | _ => false

theorem saysNought_eq {x : Option (Res × Om)} (h : saysNought x = true) : ∃ Ω, x = some (.ret (.int .i64 0), Ω) := by
  unfold saysNought at h
  split at h
  · exact ⟨_, rfl⟩
  · cases h

theorem check_nought : saysNought (runN 100000 40 9 memoC.args memoC.om) = true := by kernel_rfl

theorem memoC_tight : memoC.tight = true := by kernel_rfl

/-- What stands for functions apart, the check among them. -/
noncomputable def oraC (fuel : Nat) : Ora := fun call f =>
  match Nat.beq f 9 with
  | true => some fun args Ω => match memoOp memoC args Ω with
    | some x => some x
    | none => evDefer Tryz.prog call (evDraw Tryz.prog) fuel 9 args Ω
  | false => oraN fuel call f

theorem oraC_ok (hP : NoCount Tryz.prog) (hm : Tryz.prog.follows .mixedOrders = true) (fuel : Nat) : OraOk Tryz.prog (oraC fuel) := by
  intro call hc f g hg args Ω r Ω' h φ base w args' hr hl
  unfold oraC at hg
  split at hg
  · rename_i hf
    obtain rfl : f = 9 := Nat.eq_of_beq_eq_true hf
    injection hg with hg
    subst hg
    dsimp only at h
    split at h
    · rename_i x hx
      injection h with h
      subst h
      obtain ⟨Ω1, h1⟩ := saysNought_eq check_nought
      exact memoOp_ok (runN_ok hP hm 100000 40) memoC_tight h1 (fun φ φ' v' hv => by cases hv; exact .int _ _) hx hr hl
    · exact evDefer_ok hP hc (evDraw_ok hP hm) h hr hl
  · exact oraN_ok hP hm fuel call hc f g hg args Ω r Ω' h φ base w args' hr hl

noncomputable def runC (fuel d : Nat) : CallG := evCall Tryz.prog (oraC fuel) (evDraw Tryz.prog) fuel d

theorem runC_ok (hP : NoCount Tryz.prog) (hm : Tryz.prog.follows .mixedOrders = true) (fuel d : Nat) : CallGOk Tryz.prog (runC fuel d) :=
  evCall_ok hP (oraC_ok hP hm fuel) (evDraw_ok hP hm) fuel d

end Go.Ev
