/- Structs that are compared. -/
import Derived.Test.YtgnbcaebopajoaaGreatDoorEvMaps
import Derived.Test.YtgnbcaebopajoaaGreatDoorEvAppend
import Derived.Laws.StructEq
namespace Go.Ev
open Go.RowKit

def partA (P : Program) (t : TypeId) (cs : List Value) (off : Nat) : Option Value :=
  match P.underlying t with
  | some d =>
    match isAggD d with
    | true => match P.info? t with
      | some i => some (.agg ⟨(cs.drop off).take i.size⟩)
      | none => none
    | false => cs[off]?
  | none => none

theorem part_run {P : Program} {w : World} {φ : Phi} {t : TypeId} {cs : List Value} {cs' : Array Value} {off : Nat} {v : Value} (hl : LRel φ cs cs'.toList) (h : partA P t cs off = some v) :
    ∃ v', (part t cs' off).run P w = .ok v' w ∧ VRel φ v v' := by
  unfold partA at h
  split at h
  · rename_i d hd
    split at h
    · rename_i hagg
      split at h
      · rename_i i hi
        injection h with h
        subst h
        refine ⟨.agg ⟨(cs'.toList.drop off).take i.size⟩, ?_, ((hl.drop _).take _).agg⟩
        have e : cs'.extract off (off + i.size) = ⟨(cs'.toList.drop off).take i.size⟩ := by
          apply Array.ext'
          simp [List.extract_eq_take_drop]
        simp [part, r_isAgg hd, hagg, r_size hi, e]
      · cases h
    · rename_i hagg
      rw [List.getElem?_eq_some_iff] at h
      obtain ⟨hi, rfl⟩ := h
      have hi2 : off < cs'.toList.length := by rw [← hl.1]; exact hi
      refine ⟨cs'.toList[off], ?_, hl.2 _ hi hi2⟩
      have hi3 : off < cs'.size := by simpa using hi2
      simp [part, r_isAgg hd, hagg, hi3]
  · cases h

def eqFs (P : Program) (e : TypeId → Value → Value → Option Bool) (xs ys : List Value) : List Field → Option Bool
  | [] => some true
  | f :: r =>
    if f.name ≠ "_" then
      match partA P f.type xs f.offset, partA P f.type ys f.offset with
      | some a, some b => match e f.type a b with
        | some true => eqFs P e xs ys r
        | some false => some false
        | none => none
      | _, _ => none
    else eqFs P e xs ys r

def eqIn (P : Program) : Nat → TypeId → Value → Value → Option Bool
  | 0, _, _, _ => none
  | d + 1, t, x, y =>
    match P.underlying t with
    | some .bool => match x, y with
      | .bool a, .bool b => some (a == b)
      | _, _ => none
    | some (.int _) => match x, y with
      | .int k a, .int k' b => if k = k' then some (a == b) else none
      | _, _ => none
    | some .string => match x, y with
      | .string a, .string b => some (a.toList == b.toList)
      | _, _ => none
    | some (.struct fs) => match x, y with
      | .agg xs, .agg ys => if P.stoodInHeld t = false then eqFs P (eqIn P d) xs.toList ys.toList fs.toList else none
      | _, _ => none
    | _ => none

theorem eqIn_run {P : Program} {w : World} {φ : Phi} : ∀ (d : Nat) {t : TypeId} {x y x' y' : Value} {b : Bool}, VRel φ x x' → VRel φ y y' → eqIn P d t x y = some b → ∀ k, (Op.equalIn (d + k) t x' y').run P w = .ok b w := by
  intro d
  induction d with
  | zero => intro t x y x' y' b _ _ h; simp [eqIn] at h
  | succ d ih =>
    intro t x y x' y' b hx hy h k
    have ek : d + 1 + k = (d + k) + 1 := by omega
    rw [ek]
    simp only [eqIn] at h
    split at h
    · rename_i hu
      split at h
      · injection h with h; subst h; cases hx; cases hy; exact run_equalIn_bool' w _ t _ _ hu
      · cases h
    · rename_i kd hu
      split at h
      · split at h
        · rename_i hk
          subst hk
          injection h with h; subst h; cases hx; cases hy; exact run_equalIn_int w _ t _ _ _ _ hu
        · cases h
      · cases h
    · rename_i hu
      split at h
      · injection h with h; subst h; cases hx; cases hy; exact run_equalIn_string w _ t _ _ hu
      · cases h
    · rename_i fs hu
      split at h
      · split at h
        · rename_i hp
          obtain ⟨xs', rfl, hxs⟩ := LRel.of_agg hx
          obtain ⟨ys', rfl, hys⟩ := LRel.of_agg hy
          have hf : P.fieldsOf t = fs := by simp [Program.fieldsOf, hu]
          rw [run_equalIn_struct w _ t xs' ys' (by rw [hf]; exact hu) hp, hf]
          generalize fs.toList = l at h
          induction l generalizing b with
          | nil => injection h with h; subst h; rfl
          | cons f r ihl =>
            simp only [eqFs] at h
            simp only [Op.eqFields]
            split at h
            · rename_i hn
              rw [if_pos hn]
              split at h
              · rename_i a c ha hb
                obtain ⟨a', r1, v1⟩ := part_run (w := w) hxs ha
                obtain ⟨c', r2, v2⟩ := part_run (w := w) hys hb
                split at h
                · rename_i he
                  have r3 := ih v1 v2 he k
                  simp only [Sem.run_bind, r1, r2, r3, Result.andThen_ok, Bool.not_true, Bool.false_eq_true, if_false]
                  exact ihl h
                · rename_i he
                  injection h with h
                  subst h
                  have r3 := ih v1 v2 he k
                  simp only [Sem.run_bind, r1, r2, r3, Result.andThen_ok, Bool.not_false, if_true, Sem.run_pure]
                · cases h
              · cases h
            · rename_i hn
              rw [if_neg hn]
              exact ihl h
        · cases h
      · cases h
    · cases h

def structOp (P : Program) (op : BinOp) (t : TypeId) (x y : Value) : Option Value :=
  match x, y with
  | .agg xs, .agg ys =>
    if P.eqGuardType P.depth t = false then
      match op with
      | .eql => (eqIn P 8 t (.agg xs) (.agg ys)).bind fun b => mkB b
      | .neq => (eqIn P 8 t (.agg xs) (.agg ys)).bind fun b => mkB (!b)
      | _ => none
    else none
  | _, _ => none

theorem structOp_sound {P : Program} {w : World} {φ : Phi} {op : BinOp} {t : TypeId} {x y x' y' v : Value} {ox oy : Operand} (hx : VRel φ x x') (hy : VRel φ y y') (h : structOp P op t x y = some v) :
    (do eqGuard op t ox oy x' y'; Go.binOp op t x' y' : Sem Value).run P w = .ok v w ∧ VRel φ v v := by
  unfold structOp at h
  split at h
  · split at h
    · rename_i hg
      obtain ⟨xs', rfl, hxs⟩ := LRel.of_agg hx
      obtain ⟨ys', rfl, hys⟩ := LRel.of_agg hy
      have e8 : (10000 : Nat) = 8 + 9992 := rfl
      rw [Sem.run_bind, run_eqGuard_agg w op t ox oy xs' ys' hg]
      simp only [Result.andThen_ok]
      split at h
      · simp only [Option.bind_eq_some_iff, mkB_eq] at h
        obtain ⟨b, hb, h⟩ := h
        injection h with h
        subst h
        refine ⟨?_, .bool _⟩
        have hr := eqIn_run (w := w) 8 hx hy hb 9992
        rw [run_eql_struct, e8, hr]
        rfl
      · simp only [Option.bind_eq_some_iff, mkB_eq] at h
        obtain ⟨b, hb, h⟩ := h
        injection h with h
        subst h
        refine ⟨?_, .bool _⟩
        have hr := eqIn_run (w := w) 8 hx hy hb 9992
        rw [run_neq_struct, e8, hr]
        rfl
      · cases h
    · cases h
  · cases h

def isLit : Operand → Bool
  | .const _ => true
  | _ => false

/-- An interface against nil. -/
def ifaceEq (c : Bool) : Value → Value → Option Bool
  | .iface _ _, .nilIface => some false
  | .nilIface, .iface _ _ => some false
  | .nilIface, .nilIface => if c then some true else none
  | _, _ => none

def ifaceOp (P : Program) (op : BinOp) (t : TypeId) (c : Bool) (x y : Value) : Option Value :=
  match P.underlying t with
  | some (.interface _) =>
    match op with
    | .eql => (ifaceEq c x y).bind fun b => mkB b
    | .neq => (ifaceEq c x y).bind fun b => mkB (!b)
    | _ => none
  | _ => none

theorem ifaceEq_run {P : Program} {w : World} {φ : Phi} {op : BinOp} {t : TypeId} {ms : Array (String × TypeId)} {ox oy : Operand} {x y x' y' : Value} {b : Bool} (ht : P.underlying t = some (.interface ms)) (hx : VRel φ x x') (hy : VRel φ y y') (h : ifaceEq (isLit ox || isLit oy) x y = some b) :
    (eqGuard op t ox oy x' y').run P w = .ok () w ∧ (Op.equal t x' y').run P w = .ok b w := by
  obtain ⟨d, hd⟩ : ∃ d, Op.maxDepth = d + 1 := ⟨9999, rfl⟩
  unfold ifaceEq at h
  split at h
  · injection h with h
    subst h
    cases hx
    cases hy
    refine ⟨by cases op <;> simp [eqGuard], ?_⟩
    simp only [Op.equal, hd, Op.equalIn, Sem.run_bind, r_under ht, Result.andThen_ok]
    rfl
  · injection h with h
    subst h
    cases hx
    cases hy
    refine ⟨by cases op <;> simp [eqGuard], ?_⟩
    simp only [Op.equal, hd, Op.equalIn, Sem.run_bind, r_under ht, Result.andThen_ok]
    rfl
  · split at h
    · rename_i hc
      injection h with h
      subst h
      cases hx
      cases hy
      refine ⟨?_, ?_⟩
      · cases ox <;> cases oy <;> first | (simp [isLit] at hc; done) | (cases op <;> simp [eqGuard])
      · simp only [Op.equal, hd, Op.equalIn, Sem.run_bind, r_under ht, Result.andThen_ok]
        rfl
    · cases h
  · cases h

theorem ifaceOp_sound {P : Program} {w : World} {φ : Phi} {op : BinOp} {t : TypeId} {x y x' y' v : Value} {ox oy : Operand} (hx : VRel φ x x') (hy : VRel φ y y') (h : ifaceOp P op t (isLit ox || isLit oy) x y = some v) :
    (do eqGuard op t ox oy x' y'; Go.binOp op t x' y' : Sem Value).run P w = .ok v w ∧ VRel φ v v := by
  unfold ifaceOp at h
  split at h
  · rename_i ms ht
    have shape : ∀ b, ifaceEq (isLit ox || isLit oy) x y = some b → (x' = .nilIface ∨ ∃ t v, x' = .iface t v) := by
      intro b hb
      unfold ifaceEq at hb
      split at hb
      · cases hx; exact .inr ⟨_, _, rfl⟩
      · cases hx; exact .inl rfl
      · cases hx; exact .inl rfl
      · cases hb
    split at h
    · simp only [Option.bind_eq_some_iff, mkB_eq] at h
      obtain ⟨b, hb, h⟩ := h
      injection h with h
      subst h
      obtain ⟨h1, h2⟩ := ifaceEq_run (w := w) (op := .eql) ht hx hy hb
      refine ⟨?_, .bool _⟩
      rw [Sem.run_bind, h1]
      simp only [Result.andThen_ok]
      have e : Go.binOp .eql t x' y' = (do pure (.bool (← Op.equal t x' y'))) := by rcases shape b hb with rfl | ⟨_, _, rfl⟩ <;> rfl
      rw [e]
      simp only [Sem.run_bind, h2, Result.andThen_ok, Sem.run_pure]
    · simp only [Option.bind_eq_some_iff, mkB_eq] at h
      obtain ⟨b, hb, h⟩ := h
      injection h with h
      subst h
      obtain ⟨h1, h2⟩ := ifaceEq_run (w := w) (op := .neq) ht hx hy hb
      refine ⟨?_, .bool _⟩
      rw [Sem.run_bind, h1]
      simp only [Result.andThen_ok]
      have e : Go.binOp .neq t x' y' = (do pure (.bool (!(← Op.equal t x' y')))) := by rcases shape b hb with rfl | ⟨_, _, rfl⟩ <;> rfl
      rw [e]
      simp only [Sem.run_bind, h2, Result.andThen_ok, Sem.run_pure]
    · cases h
  · cases h

def binAll (P : Program) (op : BinOp) (t : TypeId) (c : Bool) (x y : Value) : Option Value :=
  match binOp P op t x y with
  | some v => some v
  | none => match structOp P op t x y with
    | some v => some v
    | none => ifaceOp P op t c x y

theorem binAll_sound {P : Program} {w : World} {φ : Phi} {op : BinOp} {t : TypeId} {x y x' y' v : Value} {ox oy : Operand} (hx : VRel φ x x') (hy : VRel φ y y') (h : binAll P op t (isLit ox || isLit oy) x y = some v) :
    (do eqGuard op t ox oy x' y'; Go.binOp op t x' y' : Sem Value).run P w = .ok v w ∧ VRel φ v v := by
  unfold binAll at h
  split at h
  · rename_i u hu
    injection h with h
    subst h
    exact binOp_sound hx hy hu
  · split at h
    · rename_i u hu
      injection h with h
      subst h
      exact structOp_sound hx hy hu
    · exact ifaceOp_sound hx hy h

def lenAll (P : Program) (Ω : Om) (t : TypeId) (x : Value) : Option Value :=
  match lenOp P t x with
  | some v => some v
  | none => lenMapOp P Ω t x

theorem lenAll_sound {P : Program} {φ base Ω w} (hr : HRel φ base Ω w) {ts : Array TypeId} {t ty : TypeId} {x x' v : Value} (ht : ts.toList = [t]) (hx : VRel φ x x') (h : lenAll P Ω t x = some v) :
    (Builtin.len_ ts ty #[x']).run P w = .ok v w ∧ VRel φ v v := by
  unfold lenAll at h
  split at h
  · rename_i u hu
    injection h with h
    subst h
    exact len_sound ht hx hu
  · exact lenMap_sound hr ht hx h

end Go.Ev
