/- The row, proved. -/
import Derived.Test.YtgnbcaebopajoaaGreatDoorEvNn
import Derived.Test.YtgnbcaebopajoaaGreatDoorRows
import Derived.ChangeSame
import Derived.ChangeVars
import Derived.JoinedOf
import Derived.RowKit
import Derived.RowKitTokens
import Derived.LaidLaws
import Derived.Shelf.Vars
import Derived.HandedShaped
namespace Go.Proofs.YtgnbcaebopajoaaGreatDoor
open Go.ChangeShapes Go.WideShapes Go.RowKit Go.Ev

theorem own : ownKnob Tryz.prog.godebug = none := by kernel_rfl
theorem mixed : Tryz.prog.follows .mixedOrders = true := by kernel_rfl
theorem noneNamed : (Tryz.prog.funcs.all fun fn => !(fn.name == "runtime.NumGoroutine")) = true := by kernel_rfl
theorem noCount : NoCount Tryz.prog := by
  intro g fn hg
  have := Array.all_eq_true_iff_forall_mem.1 noneNamed fn (Array.mem_of_getElem? hg)
  simpa using this

theorem gTab : Tryz.prog.globalNamed "math/bits.deBruijn32tab" = some 0 := by kernel_rfl
theorem gTabType : (Tryz.prog.globals[0]?).map (·.type) = some 400 := by kernel_rfl
theorem gSize : Tryz.prog.globals.size = 2 := by kernel_rfl

def nums : List Int := [0, 1, 28, 2, 29, 14, 24, 3, 30, 22, 20, 15, 25, 17, 4, 8, 31, 27, 13, 23, 21, 19, 16, 7, 26, 12, 18, 6, 11, 5, 10, 9]
/-- The table, as the library lays it. -/
def tab : List Value := ([0, 1, 28, 2, 29, 14, 24, 3, 30, 22, 20, 15, 25, 17, 4, 8, 31, 27, 13, 23, 21, 19, 16, 7, 26, 12, 18, 6, 11, 5, 10, 9] : List Int).map fun n => .int .u8 n

theorem tabRow : (((begin Tryz.prog (fun _ _ => 0) default).world.heap[0]?).bind Obj.row?).map (fun x => (x.1.size, x.2)) = some (32, 400) := by kernel_rfl
theorem lenRow : (((begin Tryz.prog (fun _ _ => 0) default).world.heap[1]?).bind Obj.row?).map (fun x => (x.1.size, x.2)) = some (1, 3) := by kernel_rfl

theorem cells400 : Tryz.prog.cellsOf 400 = 32 := by kernel_rfl
theorem cells5 : Tryz.prog.cellsOf 5 = 1 := by kernel_rfl

/-! ### Memory, as the law finds it -/
theorem om0_get {b : Nat} {x : Blk} (h : om0.h.get b = some x) : (b = 0 ∧ x = .row 400 tab true none) ∨ (b = 1 ∧ x = .row 3 [.chan none] true none) := by
  unfold om0 at h
  rw [Tr.get_set _ _ _ _ (by decide)] at h
  split at h
  · rename_i hb
    injection h with h
    exact .inr ⟨hb, h.symm⟩
  · rw [Tr.get_set _ _ _ _ (by decide)] at h
    split at h
    · rename_i hb
      injection h with h
      exact .inl ⟨hb, h.symm⟩
    · rw [Tr.get_nil] at h; cases h

/-- The two variables' blocks stand for themselves. -/
def phi0 : Phi := fun b => if b < 2 then some (b, 0) else none

theorem lit_rel (φ : Phi) {k : IntKind} : ∀ (l : List Int) (i : Nat) (h : i < (l.map fun n => Value.int k n).length), VRel φ (l.map fun n => Value.int k n)[i] (l.map fun n => Value.int k n)[i] := by
  intro l i h
  simp only [List.getElem_map]
  exact .int _ _

theorem start_rel {W : World} {m : Int} (h0 : W.heap[0]? = some (.cells ⟨tab⟩ 400 (0, 0))) (h1 : W.heap[1]? = some (.cells #[.int .i64 m] 3 (0, 0))) : HRel phi0 W.heap.size om0 W := by
  have s1 : 1 < W.heap.size := (Array.getElem?_eq_some_iff.1 h1).1
  refine ⟨fun b hb => ?_, by decide, fun g hg => ?_, Nat.le_refl _, fun b B C h => ?_, fun b x h => ?_, fun b x B C h _ e => ?_, fun b1 b2 x1 x2 B C1 C2 _ _ e1 e2 => ?_⟩
  · have : (10 : Nat) ≤ b := hb
    unfold phi0; rw [if_neg (by omega)]
  · have : g < 2 := hg
    unfold phi0; rw [if_pos this]
  · unfold phi0 at h
    split at h
    · injection h with h; injection h with e1 e2; omega
    · cases h
  · rcases om0_get h with ⟨rfl, rfl⟩ | ⟨rfl, rfl⟩
    · exact ⟨0, 0, ⟨tab⟩, (0, 0), rfl, h0, fun i _ hh => by omega, fun i hi => ⟨by simpa using hi, by simp only [List.getElem_toArray]; exact lit_rel phi0 nums i hi⟩, fun h => (by cases h), fun k h => (by cases h)⟩
    · refine ⟨1, 0, #[.int .i64 m], (0, 0), rfl, h1, fun i _ hh => by omega, fun i hi => ?_, fun h => (by cases h), fun k h => (by cases h)⟩
      have hi0 : i = 0 := by simp at hi; omega
      subst hi0
      exact ⟨by simp, .someInt m⟩
  · unfold phi0 at e
    split at e
    · injection e with e; injection e with e1 e2; omega
    · cases e
  · unfold phi0 at e1 e2
    split at e1
    · split at e2
      · injection e1 with e1; injection e1 with e1 _
        injection e2 with e2; injection e2 with e2 _
        omega
      · cases e2
    · cases e1

/-- THE WALK: in every such memory the law returns true, and nothing that stood there turns. -/
theorem law_walk (W : World) {m : Int} (h0 : W.heap[0]? = some (.cells ⟨tab⟩ 400 (0, 0))) (h1 : W.heap[1]? = some (.cells #[.int .i64 m] 3 (0, 0))) :
    Calls Tryz.prog 3 #[] W fun e W' => e = .returned (.bool true) ∧ Below W.heap.size W W' := by
  obtain ⟨Ω, hrun⟩ := saysTrue_eq law_true
  have hr := start_rel h0 h1
  refine (runC_ok noCount mixed 100000 40 3 [] om0 _ Ω hrun phi0 W.heap.size W [] hr (LRel.nil _)).mono ?_
  rintro e W' ⟨φ', v', rfl, hv, _, st⟩
  cases hv
  exact ⟨rfl, st.below hr⟩

/-! ### What the row lays -/
theorem mapM_get {α β : Type} {f : α → Option β} : ∀ {l : List α} {xs : List β}, l.mapM f = some xs → xs.length = l.length ∧ ∀ i (h : i < l.length) (h' : i < xs.length), f l[i] = some xs[i]
  | [], xs, h => by
    simp at h
    subst h
    exact ⟨rfl, fun i h => absurd h (by simp)⟩
  | a :: r, xs, h => by
    simp only [List.mapM_cons, Option.bind_eq_bind, Option.bind_eq_some_iff, Option.pure_def, Option.some.injEq] at h
    obtain ⟨y, hy, ys, hys, rfl⟩ := h
    obtain ⟨h1, h2⟩ := mapM_get hys
    refine ⟨by simp [h1], fun i hi hi' => ?_⟩
    cases i with
    | zero => exact hy
    | succ i => exact h2 i (by simpa using hi) (by simpa using hi')

theorem int_of_trod {H : Type} {enc : TypeId × Value → H} {P : Program} {w : World} {base : Nat} {sp : Nat → Bool} {held : Bool} {fuel : Nat} {t : TypeId} {k : IntKind} {c : Value} {y : DataW H × List MemPlace}
    (ht : P.underlying t = some (.int k)) (h : DataW.trod enc P w base sp held fuel t [c] = some y) : ∃ n, c = .int k n ∧ y = (.lit (.int k n), []) := by
  cases fuel with
  | zero => simp [DataW.trod] at h
  | succ fuel =>
    cases c <;> simp [DataW.trod, ht] at h
    rename_i k' n
    obtain ⟨⟨rfl, _⟩, rfl⟩ := h
    exact ⟨n, rfl, rfl⟩

theorem cells_of_laid {W : World} (h : laidMet Tryz.prog [("math/bits.deBruijn32tab", Rows.laid_math_bits_deBruijn32tab)] W) : W.var? Tryz.prog "math/bits.deBruijn32tab" = some ⟨tab⟩ := by
  obtain ⟨ps, ⟨g, t, cs, fuel, p, q, hg, ht, hvar, hd, _, _⟩, _⟩ := h
  obtain rfl := Option.some.inj (gTab.symm.trans hg)
  obtain rfl := Option.some.inj (gTabType.symm.trans ht)
  rw [hvar]
  congr 1
  obtain ⟨l⟩ := cs
  congr 1
  cases fuel with
  | zero => simp [DataW.trod] at hd
  | succ fuel =>
    simp only [DataW.trod, Tryz.underlying400, cells400, cells5] at hd
    split at hd
    · rename_i hl
      simp only [Option.map_eq_some_iff] at hd
      obtain ⟨xs, hm, hx⟩ := hd
      obtain ⟨hlen, hall⟩ := mapM_get hm
      have hx1 : xs.map (·.1) = nums.map fun n => DataW.lit (.int .u8 n) := by
        injection hx with hx _
        injection hx with hx
      apply List.ext_getElem
      · rw [hl]; rfl
      · intro i hi1 hi2
        have hi : i < 32 := by omega
        have hix : i < xs.length := by rw [hlen]; simpa using hi
        have h3 := hall i (by simpa using hi) hix
        simp only [List.getElem_range, Nat.mul_one] at h3
        have e1 : (l.drop i).take 1 = [l[i]] := by
          rw [List.drop_eq_getElem_cons hi1]; rfl
        rw [e1] at h3
        obtain ⟨n, hn1, hn2⟩ := int_of_trod Tryz.underlying5 h3
        have hn : i < nums.length := hi
        have h4 : (xs.map (·.1))[i]'(by simpa using hix) = (nums.map fun n => DataW.lit (H := Unit) (.int .u8 n))[i]'(by simpa using hn) := by simp only [hx1]
        simp only [List.getElem_map, hn2] at h4
        injection h4 with h4
        injection h4 with _ h4
        rw [hn1]
        show Value.int .u8 n = (nums.map fun n => Value.int .u8 n)[i]'(by simpa using hn)
        rw [List.getElem_map, ← h4]
    · cases hd

end Go.Proofs.YtgnbcaebopajoaaGreatDoor
