/- A string within a string, for the kernel to reckon; and the library's function by its contract. -/
import Derived.Test.YtgnbcaebopajoaaGreatDoorEvDefer
import Derived.Test.YtgnbcaebopajoaaGreatDoorEvDraw5
import Derived.Test.YtgnbcaebopajoaaGreatDoorEvCopy
import Derived.Test.YtgnbcaebopajoaaGreatDoorEvShelf
namespace Go.Ev
open Go.RowKit Go.Proofs

def isPre : List UInt8 → List UInt8 → Bool
  | [], _ => true
  | _ :: _, [] => false
  | a :: x, b :: y => match Nat.beq a.toNat b.toNat with
    | true => isPre x y
    | false => false
def hasSub : List UInt8 → List UInt8 → Bool
  | [], sub => isPre sub []
  | a :: x, sub => match isPre sub (a :: x) with
    | true => true
    | false => hasSub x sub

theorem isPre_eq : ∀ (a b : List UInt8), isPre a b = a.isPrefixOf b
  | [], b => by simp [isPre]
  | _ :: _, [] => by simp [isPre]
  | x :: a, y :: b => by
    simp only [isPre, List.isPrefixOf]
    rw [isPre_eq a b]
    cases h : Nat.beq x.toNat y.toNat with
    | true =>
      have := UInt8.toNat_inj.1 (Nat.eq_of_beq_eq_true h)
      simp [this]
    | false =>
      have hne : x ≠ y := by
        intro e
        subst e
        simp at h
      simp [hne]

theorem hasSub_eq (s sub : List UInt8) : hasSub s sub = Lib.contains s sub := by
  unfold Lib.contains
  induction s with
  | nil =>
    simp only [hasSub, Lib.index, isPre_eq]
    cases sub with
    | nil => simp
    | cons a r => simp
  | cons b l ih =>
    simp only [hasSub, Lib.index, isPre_eq]
    by_cases h : sub.isPrefixOf (b :: l) = true
    · simp [h]
    · have h' : sub.isPrefixOf (b :: l) = false := Bool.eq_false_iff.2 h
      simp only [h', ih, Bool.false_eq_true, if_false]
      have := Lib.index_ge l sub
      by_cases h1 : Lib.index l sub = -1
      · simp [h1]
      · have h2 : (Lib.index l sub == -1) = false := by simpa using h1
        rw [h2]
        simp only [Bool.false_eq_true, if_false]
        congr 1
        apply propext
        constructor <;> intro h3 <;> omega

def isSome1 (Ω : Om) : Bool :=
  match Ω.h.get 1 with
  | some (.row _ (.chan none :: _) _ _) => Nat.beq (Nat.sub 2 Ω.gl) 0
  | _ => false

def containsOp (args : List Value) (Ω : Om) : Option (Res × Om) :=
  match args with
  | [.string s, .string t] =>
    match isSome1 Ω with
    | true =>
      match Nat.ble (s.data.toList.length + 1) 4294967281 with
      | true => fB (hasSub s.data.toList t.data.toList) fun b => some (.ret (.bool b), Ω)
      | false => none
    | false => none
  | _ => none

theorem containsOp_ok {args : List Value} {Ω Ω' : Om} {res : Res} (h : containsOp args Ω = some (res, Ω')) {φ : Phi} {base : Nat} {w : World} {args' : List Value} (hr : HRel φ base Ω w) (hl : LRel φ args args') :
    Calls Tryz.prog 73 args'.toArray w (RPost φ base Ω w res Ω') := by
  unfold containsOp at h
  split at h
  · rename_i s t
    split at h
    · rename_i h1
      split at h
      · rename_i hlen
        rw [fB_eq] at h
        injection h with h
        injection h with e1 e2
        subst e1 e2
        have hlen := Nat.le_of_ble_eq_true hlen
        obtain ⟨x, r, rfl, hx, hl2⟩ := hl.of_uncons
        obtain ⟨y, r, rfl, hy, hl3⟩ := hl2.of_uncons
        obtain rfl := hl3.of_nil
        cases hx
        cases hy
        unfold isSome1 at h1
        split at h1
        · rename_i ty cs ro g hg
          have hgl : 2 - Ω.gl = 0 := Nat.eq_of_beq_eq_true h1
          obtain ⟨B, C, CS, fz, ra⟩ := hr.row 1 _ _ _ _ hg
          have hp := hr.glob 1 (by omega)
          rw [ra.phi] at hp
          injection hp with hp
          injection hp with hp1 hp2
          subst hp1 hp2
          obtain ⟨k1, k2⟩ := ra.vals 0 (by simp)
          have hm : ∃ m, CS[0] = .int .i64 m := by
            simp only [List.getElem_cons_zero] at k2
            generalize CS[0] = c at k2
            cases k2 with
            | someInt m => exact ⟨m, rfl⟩
          obtain ⟨m, hm⟩ := hm
          have hcell : w.cell? ⟨1, 0, none⟩ = some (.int .i64 m) := by
            simp only [World.cell?, ra.heap]
            rw [Array.getElem?_eq_getElem k1, hm]
            rfl
          have hsz : s.size = s.data.toList.length := Array.length_toList.symm
          refine (Tryz.strings_Contains s t m w (by omega) hcell).mono ?_
          rintro e w' ⟨rfl, rfl⟩
          exact ⟨φ, .bool (Lib.contains s.data.toList t.data.toList), rfl, by rw [hasSub_eq]; exact .bool _, hr, Stp.refl _ _ _⟩
        · cases h1
      · cases h
    · cases h
  · cases h

/-- What stands for the library's function and for the three that the evaluator meets apart. -/
noncomputable def oraN (fuel : Nat) : Ora := fun call f =>
  match Nat.beq f 73 with
  | true => some containsOp
  | false => match Nat.beq f 113 with
    | true => some (evDefer Tryz.prog call (evDraw Tryz.prog) fuel 113)
    | false => match Nat.beq f 11 with
      | true => some fun args Ω => match copyOp Tryz.prog call (evDraw Tryz.prog) fuel 11 args Ω with
        | some x => some x
        | none => evDefer Tryz.prog call (evDraw Tryz.prog) fuel 11 args Ω
      | false => none

theorem oraN_ok (hP : NoCount Tryz.prog) (hm : Tryz.prog.follows .mixedOrders = true) (fuel : Nat) : OraOk Tryz.prog (oraN fuel) := by
  intro call hc f g hg args Ω r Ω' h φ base w args' hr hl
  unfold oraN at hg
  split at hg
  · rename_i hf
    obtain rfl : f = 73 := Nat.eq_of_beq_eq_true hf
    injection hg with hg
    subst hg
    exact containsOp_ok h hr hl
  · split at hg
    · rename_i hf
      obtain rfl : f = 113 := Nat.eq_of_beq_eq_true hf
      injection hg with hg
      subst hg
      exact evDefer_ok hP hc (evDraw_ok hP hm) h hr hl
    · split at hg
      · rename_i hf
        obtain rfl : f = 11 := Nat.eq_of_beq_eq_true hf
        injection hg with hg
        subst hg
        dsimp only at h
        split at h
        · rename_i x hx
          injection h with h
          subst h
          exact copyOp_ok hP hc (evDraw_ok hP hm) hx hr hl
        · exact evDefer_ok hP hc (evDraw_ok hP hm) h hr hl
      · cases hg

/-- The evaluator over the seat's program. -/
noncomputable def runN (fuel d : Nat) : CallG := evCall Tryz.prog (oraN fuel) (evDraw Tryz.prog) fuel d

theorem runN_ok (hP : NoCount Tryz.prog) (hm : Tryz.prog.follows .mixedOrders = true) (fuel d : Nat) : CallGOk Tryz.prog (runN fuel d) :=
  evCall_ok hP (oraN_ok hP hm fuel) (evDraw_ok hP hm) fuel d

end Go.Ev
