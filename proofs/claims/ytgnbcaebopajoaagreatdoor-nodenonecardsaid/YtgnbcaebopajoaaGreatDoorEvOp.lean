/- One operation: what the evaluator makes of it, and that the model makes the same. -/
import Derived.Test.YtgnbcaebopajoaaGreatDoorEvEq
namespace Go.Ev
open Go.RowKit

inductive Out where
  | val (v : Value) (Ω : Om)
  | call (f : FuncId) (args : List Value)
  | pan (v : Value)

/-- A value in an interface. -/
def mkIface (P : Program) (t : TypeId) (v : Value) : Option Value :=
  match P.underlying t with
  | some (.interface _) => none
  | some _ => some (.iface t v)
  | none => none

/-- A value out of an interface: of a type that is no interface, asked for without a second answer. -/
def assertOp (P : Program) (x : Value) (asserted : TypeId) : Option Value :=
  match P.underlying asserted with
  | some (.interface _) => none
  | some _ => match x with
    | .iface t v => if t = asserted then some v else none
    | _ => none
  | none => none

def evs (T : Tr Value) (gl : Nat) : List Operand → Option (List Value)
  | [] => some []
  | x :: r => match ev T gl x, evs T gl r with
    | some v, some l => some (v :: l)
    | _, _ => none

def evParts (T : Tr Value) (gl : Nat) : List (Nat × Operand) → Option (List (Nat × Value))
  | [] => some []
  | (i, x) :: r => match ev T gl x, evParts T gl r with
    | some v, some l => some ((i, v) :: l)
    | _, _ => none

def evO (T : Tr Value) (gl : Nat) : Option Operand → Option (Option Value)
  | none => some none
  | some x => (ev T gl x).map some

def maxOp : List Value → Option Value
  | [.int k a, .int k' b] => if k = k' then mkI k (if b > a then b else a) else none
  | _ => none
def minOp : List Value → Option Value
  | [.int k a, .int k' b] => if k = k' then mkI k (if b < a then b else a) else none
  | _ => none

def unOp (op : UnOp) (x : Value) : Option Value :=
  match op, x with
  | .not, .bool b => mkB (!b)
  | .neg, .int k n => intOp .sub k 0 n
  | .xor, .int k n => intOp .xor k (if k.signed then -1 else k.max) n
  | _, _ => none

def callOp (P : Program) (T : Tr Value) (Ω : Om) (c : Call) : Option Out :=
  match c.callee with
  | .builtin b =>
    match evs T Ω.gl c.args.toList with
    | some l =>
      match b with
      | .len => match l, c.argTypes.toList with
        | [x], [t] => (lenAll P Ω t x).map (.val · Ω)
        | _, _ => none
      | .cap => match l, c.argTypes.toList with
        | [x], [t] => (capOp P t x).map (.val · Ω)
        | _, _ => none
      | .append => match l with
        | [s, x] => (appendOp P Ω c.argTypes.toList s x).map fun r => .val r.1 r.2
        | _ => none
      | .max => (maxOp l).map (.val · Ω)
      | .min => (minOp l).map (.val · Ω)
      | _ => none
    | none => none
  | .value f =>
    match ev T Ω.gl f with
    | some (.func (.func g) first captured) =>
      match evs T Ω.gl c.args.toList with
      | some l =>
        match P.funcs[g]? with
        | some fn => match fn.body with
          | some _ => some (.call g (first.toList ++ l ++ captured.toList))
          | none => none
        | none => none
      | none => none
    | _ => none
  | _ => none

def aop (P : Program) (T : Tr Value) (Ω : Om) (o : Oper) : Option Out :=
  match o.op with
  | .move x => (ev T Ω.gl x).map (.val · Ω)
  | .assign x => (ev T Ω.gl x).map (.val · Ω)
  | .pick c a b =>
    match ev T Ω.gl c with
    | some (.bool true) => (ev T Ω.gl a).map (.val · Ω)
    | some (.bool false) => (ev T Ω.gl b).map (.val · Ω)
    | _ => none
  | .alloc t => (allocOp P Ω t).map fun r => .val r.1 r.2
  | .box t x => (ev T Ω.gl x).bind fun v => (boxOp Ω t v).map fun r => .val r.1 r.2
  | .build t ps => (evParts T Ω.gl ps.toList).bind fun l => (buildOp P t l).map (.val · Ω)
  | .buildSlice t n ps => (evParts T Ω.gl ps.toList).bind fun l => (buildSliceOp P Ω t n l).map fun r => .val r.1 r.2
  | .load t a => (ev T Ω.gl a).bind fun v => (loadOp P Ω t v).map (.val · Ω)
  | .store t a x => (ev T Ω.gl a).bind fun v => (ev T Ω.gl x).bind fun u => (storeOp P Ω t v u).map fun Ω' => .val undef Ω'
  | .nilCheck x =>
    match ev T Ω.gl x with
    | some (.pointer (some a)) => some (.val (.pointer (some a)) Ω)
    | some (.func (.func f) xs ys) => some (.val (.func (.func f) xs ys) Ω)
    | _ => none
  | .binOp op t x y _ => (ev T Ω.gl x).bind fun v => (ev T Ω.gl y).bind fun u => (binAll P op t (isLit x || isLit y) v u).map (.val · Ω)
  | .unOp op _ x => (ev T Ω.gl x).bind fun v => (unOp op v).map (.val · Ω)
  | .convert s d x => (ev T Ω.gl x).bind fun v =>
    match convOp P Ω s d v with
    | some u => some (.val u Ω)
    | none => (strBytesOp P Ω s d v).map fun r => .val r.1 r.2
  | .makeFunc fn first captured => (evs T Ω.gl first.toList).bind fun xs => (evs T Ω.gl captured.toList).map fun ys => .val (.func fn ⟨xs⟩ ⟨ys⟩) Ω
  | .makeSlice t l c => (ev T Ω.gl l).bind fun v => (ev T Ω.gl c).bind fun u => (makeSliceOp P Ω t v u).map fun r => .val r.1 r.2
  | .slice t x lo hi mx => (ev T Ω.gl x).bind fun v => (evO T Ω.gl lo).bind fun lo => (evO T Ω.gl hi).bind fun hi => (evO T Ω.gl mx).bind fun mx => (sliceOp P t v lo hi mx).map (.val · Ω)
  | .fieldAddr s x f => (ev T Ω.gl x).bind fun v => (fieldAddrOp P s v f).map (.val · Ω)
  | .field t x f => (ev T Ω.gl x).bind fun v => (fieldOp P t v f).map (.val · Ω)
  | .indexAddr t x i => (ev T Ω.gl x).bind fun v => (ev T Ω.gl i).bind fun u => (indexAddrOp P t v u).map (.val · Ω)
  | .index t x i => (ev T Ω.gl x).bind fun v => (ev T Ω.gl i).bind fun u => (indexOp P t v u).map (.val · Ω)
  | .extract x i => (ev T Ω.gl x).bind fun v => (extractOp v i).map (.val · Ω)
  | .call c => callOp P T Ω c
  | .makeInterface t x => (ev T Ω.gl x).bind fun v => (mkIface P t v).map (.val · Ω)
  | .typeAssert x _ asserted false => (ev T Ω.gl x).bind fun v => (assertOp P v asserted).map (.val · Ω)
  | .makeMap _ none => (makeMapOp Ω).map fun r => .val r.1 r.2
  | .mapUpdate t m k x => (ev T Ω.gl m).bind fun m => (ev T Ω.gl k).bind fun k => (ev T Ω.gl x).bind fun x => (mapSetOp P Ω t m k x).map fun Ω' => .val undef Ω'
  | .insert t m k x => (ev T Ω.gl m).bind fun m => (ev T Ω.gl k).bind fun k => (ev T Ω.gl x).bind fun x => (mapSetOp P Ω t m k x).map fun Ω' => .val undef Ω'
  | .lookup t x ix ok => (ev T Ω.gl x).bind fun v => (ev T Ω.gl ix).bind fun u => (lookupOp P Ω t v u ok).map (.val · Ω)
  | .range t x => (ev T Ω.gl x).bind fun v => (rangeOp P Ω t v).map fun r => .val r.1 r.2
  | .next it str => (ev T Ω.gl it).bind fun v => (nextOp Ω v str).map (.val · Ω)
  | .panic x =>
    match ev T Ω.gl x with
    | some (.iface t v) => some (.pan (.iface t v))
    | _ => none
  | _ => none

/-- No function with a body has the name at which the model counts goroutines. -/
def NoCount (P : Program) : Prop := ∀ (g : Nat) (fn : Func), P.funcs[g]? = some fn → (fn.name == "runtime.NumGoroutine") = false

def ValOk (P : Program) (φ : Phi) (base : Nat) (Ω : Om) (w : World) (s : Sem Next) (v : Value) (Ω' : Om) : Prop :=
  ∃ φ' w' nx v', s.run P w = .ok nx w' ∧ (nx = .value v' ∨ (nx = .skip ∧ v' = undef)) ∧ VRel φ' v v' ∧ HRel φ' base Ω' w' ∧ Stp φ Ω w φ' Ω' w'

theorem ValOk.still {P : Program} {φ base Ω w} (hr : HRel φ base Ω w) {s : Sem Next} {v v' : Value} (hs : s.run P w = .ok (.value v') w) (hv : VRel φ v v') : ValOk P φ base Ω w s v Ω :=
  ⟨φ, w, .value v', v', hs, .inl rfl, hv, hr, Stp.refl _ _ _⟩

theorem ValOk.of {P : Program} {φ base Ω w} {s : Sem Value} {v : Value} {Ω' : Om} (h : ∃ φ' w' v', s.run P w = .ok v' w' ∧ VRel φ' v v' ∧ HRel φ' base Ω' w' ∧ Stp φ Ω w φ' Ω' w') :
    ValOk P φ base Ω w (do pure (Next.value (← s))) v Ω' := by
  obtain ⟨φ', w', v', h1, h2, h3, h4⟩ := h
  exact ⟨φ', w', .value v', v', by simp [h1], .inl rfl, h2, h3, h4⟩

theorem evs_sound {φ : Phi} {base Ω w} (hr : HRel φ base Ω w) {T : Tr Value} {n : Nat} {a : Act} (ht : TRel φ T n a.tmps) : ∀ {xs : List Operand} {l : List Value}, evs T Ω.gl xs = some l → LRel φ l (xs.map a.eval) := by
  intro xs
  induction xs with
  | nil => intro l h; injection h with h; subst h; exact LRel.nil φ
  | cons x r ih =>
    intro l h
    simp only [evs] at h
    split at h
    · rename_i v l' h1 h2
      injection h with h
      subst h
      exact LRel.cons (ev_sound hr ht h1) (ih h2)
    · cases h

theorem evParts_sound {φ : Phi} {base Ω w} (hr : HRel φ base Ω w) {T : Tr Value} {n : Nat} {a : Act} (ht : TRel φ T n a.tmps) : ∀ {xs : List (Nat × Operand)} {l : List (Nat × Value)}, evParts T Ω.gl xs = some l → PRel φ l (xs.map fun (i, x) => (i, a.eval x)) := by
  intro xs
  induction xs with
  | nil => intro l h; injection h with h; subst h; trivial
  | cons x r ih =>
    intro l h
    obtain ⟨i, x⟩ := x
    simp only [evParts] at h
    split at h
    · rename_i v l' h1 h2
      injection h with h
      subst h
      exact ⟨rfl, ev_sound hr ht h1, ih h2⟩
    · cases h

theorem evO_sound {φ : Phi} {base Ω w} (hr : HRel φ base Ω w) {T : Tr Value} {n : Nat} {a : Act} (ht : TRel φ T n a.tmps) {x : Option Operand} {v : Option Value} (h : evO T Ω.gl x = some v) : ORel φ v (x.map a.eval) := by
  cases x with
  | none => injection h with h; subst h; exact ⟨fun v h => (by cases h), fun _ => rfl⟩
  | some x =>
    simp only [evO, Option.map_eq_some_iff] at h
    obtain ⟨u, hu, rfl⟩ := h
    exact ⟨fun v hv => (by injection hv with hv; subst hv; exact ⟨_, rfl, ev_sound hr ht hu⟩), fun h => (by cases h)⟩

def OutOk (P : Program) (φ : Phi) (base : Nat) (Ω : Om) (w : World) (s : Sem Next) : Out → Prop
  | .val v Ω' => ValOk P φ base Ω w s v Ω'
  | .call f args => ∃ args' : Array Value, s.run P w = .ok (.enter f args') w ∧ LRel φ args args'.toList
  | .pan v => ∃ v', s.run P w = .halt (.panic v') w ∧ VRel φ v v'

theorem unOp_sound {P : Program} {w : World} {φ : Phi} {op : UnOp} {x x' v : Value} (hx : VRel φ x x') (h : unOp op x = some v) : (Op.unary op x').run P w = .ok v w ∧ VRel φ v v := by
  unfold unOp at h
  split at h
  · rw [mkB_eq] at h; injection h with h; subst h; cases hx
    exact ⟨rfl, .bool _⟩
  · cases hx
    simp only [intOp, mkI_eq] at h
    injection h with h; subst h
    exact ⟨by simp [Op.unary, Op.intArith], .int _ _⟩
  · cases hx
    simp only [intOp, mkI_eq] at h
    injection h with h; subst h
    exact ⟨by simp [Op.unary, Op.intBits], .int _ _⟩
  · cases h

theorem mkIface_sound {P : Program} {w : World} {φ : Phi} {t : TypeId} {x x' v : Value} (hx : VRel φ x x') (h : mkIface P t x = some v) : ∃ v', (Instr.makeInterface t x').run P w = .ok v' w ∧ VRel φ v v' := by
  unfold mkIface at h
  split at h
  · cases h
  · rename_i d hne hd
    injection h with h
    subst h
    refine ⟨.iface t x', ?_, .iface _ _ _ hx⟩
    simp only [Instr.makeInterface, Sem.run_bind, r_under hd, Result.andThen_ok]
    cases d <;> first | rfl | exact absurd hd (hne _)
  · cases h

theorem assert_sound {P : Program} {w : World} {φ : Phi} {t xt : TypeId} {x x' v : Value} (hx : VRel φ x x') (h : assertOp P x t = some v) : ∃ v', (Instr.typeAssert x' xt t false).run P w = .ok v' w ∧ VRel φ v v' := by
  unfold assertOp at h
  split at h
  · cases h
  · rename_i d hne hd
    split at h
    · split at h
      · rename_i ht
        injection h with h
        subst h ht
        cases hx with
        | iface _ _ v' hv =>
          refine ⟨v', ?_, hv⟩
          simp only [Instr.typeAssert, Sem.run_bind, r_under hd, Result.andThen_ok]
          cases d <;> first | (simp; done) | exact absurd hd (hne _)
      · cases h
    · cases h
  · cases h

set_option maxHeartbeats 2000000 in
theorem callOp_sound {P : Program} (hP : NoCount P) {φ : Phi} {base Ω w} (hr : HRel φ base Ω w) {T : Tr Value} {n : Nat} {a : Act} (ht : TRel φ T n a.tmps) {c : Call} {ty : TypeId} {out : Out} (h : callOp P T Ω c = some out) :
    OutOk P φ base Ω w (do let d ← resolve a.eval c ty; invoke d.target d.args) out := by
  unfold callOp at h
  split at h
  · rename_i b hb
    split at h
    · rename_i l hl
      have hrel := evs_sound hr ht hl
      have hargs : (c.args.map a.eval).toList = c.args.toList.map a.eval := by simp
      rw [← hargs] at hrel
      split at h
      · -- len
        split at h
        · rename_i x t hts
          simp only [Option.map_eq_some_iff] at h
          obtain ⟨v, hv, rfl⟩ := h
          obtain ⟨x', r, he, hx, hr2⟩ := hrel.of_uncons
          obtain rfl := hr2.of_nil
          have he2 : c.args.map a.eval = #[x'] := Array.ext' he
          obtain ⟨h1, h2⟩ := lenAll_sound (P := P) (w := w) (ty := ty) hr hts hx hv
          exact ValOk.still hr (v' := v) (by simp only [resolve, hb, invoke, builtin, Sem.run_bind, Sem.run_pure, Result.andThen_ok, he2, h1]) h2
        · cases h
      · -- cap
        split at h
        · rename_i x t hts
          simp only [Option.map_eq_some_iff] at h
          obtain ⟨v, hv, rfl⟩ := h
          obtain ⟨x', r, he, hx, hr2⟩ := hrel.of_uncons
          obtain rfl := hr2.of_nil
          have he2 : c.args.map a.eval = #[x'] := Array.ext' he
          obtain ⟨h1, h2⟩ := cap_sound (P := P) (w := w) (ty := ty) hts hx hv
          exact ValOk.still hr (v' := v) (by simp only [resolve, hb, invoke, builtin, Sem.run_bind, Sem.run_pure, Result.andThen_ok, he2, h1]) h2
        · cases h
      · -- append
        split at h
        · rename_i s x
          simp only [Option.map_eq_some_iff] at h
          obtain ⟨⟨v, Ω'⟩, hv, rfl⟩ := h
          obtain ⟨s', r, he, hs, hr2⟩ := hrel.of_uncons
          obtain ⟨x', r, rfl, hx, hr3⟩ := hr2.of_uncons
          obtain rfl := hr3.of_nil
          have he2 : c.args.map a.eval = #[s', x'] := Array.ext' he
          obtain ⟨φ', w', v', h1, h2, h3, h4⟩ := append_sound (P := P) (ty := ty) hr hs hx hv
          exact ⟨φ', w', .value v', v', by simp only [resolve, hb, invoke, builtin, Sem.run_bind, Sem.run_pure, Result.andThen_ok, he2, h1], .inl rfl, h2, h3, h4⟩
        · cases h
      · -- max
        simp only [Option.map_eq_some_iff] at h
        obtain ⟨v, hv, rfl⟩ := h
        unfold maxOp at hv
        split at hv
        · split at hv
          · rename_i k x k' y hk
            subst hk
            rw [mkI_eq] at hv
            injection hv with hv
            subst hv
            obtain ⟨s', r, he, hs, hr2⟩ := hrel.of_uncons
            obtain ⟨x', r, rfl, hx, hr3⟩ := hr2.of_uncons
            obtain rfl := hr3.of_nil
            cases hs
            cases hx
            have he2 : c.args.map a.eval = #[.int k x, .int k y] := Array.ext' he
            exact ValOk.still hr (v' := .int k (if y > x then y else x)) (by simp [resolve, hb, invoke, builtin, he2, Builtin.max_, Builtin.max2]) (.int _ _)
          · cases hv
        · cases hv
      · -- min
        simp only [Option.map_eq_some_iff] at h
        obtain ⟨v, hv, rfl⟩ := h
        unfold minOp at hv
        split at hv
        · split at hv
          · rename_i k x k' y hk
            subst hk
            rw [mkI_eq] at hv
            injection hv with hv
            subst hv
            obtain ⟨s', r, he, hs, hr2⟩ := hrel.of_uncons
            obtain ⟨x', r, rfl, hx, hr3⟩ := hr2.of_uncons
            obtain rfl := hr3.of_nil
            cases hs
            cases hx
            have he2 : c.args.map a.eval = #[.int k x, .int k y] := Array.ext' he
            exact ValOk.still hr (v' := .int k (if y < x then y else x)) (by simp [resolve, hb, invoke, builtin, he2, Builtin.min_, Builtin.min2]) (.int _ _)
          · cases hv
        · cases hv
      · cases h
    · cases h
  · rename_i f hf
    split at h
    · rename_i g first captured hev
      have hfv := ev_sound hr ht hev
      obtain ⟨first', captured', he, h1, h2⟩ := LRel.of_func hfv
      split at h
      · rename_i l hl
        have hrel := evs_sound hr ht hl
        split at h
        · rename_i fn hfn
          split at h
          · rename_i body hbody
            injection h with h
            subst h
            refine ⟨first' ++ c.args.map a.eval ++ captured', ?_, ?_⟩
            · have hn := hP g fn hfn
              have hn' : ¬ fn.name = "runtime.NumGoroutine" := by simpa using hn
              simp [resolve, hf, Deferred.ofValue, he, invoke, callFunc, hfn, hn', hbody]
            · simp only [Array.toList_append, Array.toList_map]
              exact (h1.append hrel).append h2
          · cases h
        · cases h
      · cases h
    · cases h
  · cases h

set_option maxHeartbeats 4000000 in
theorem aop_sound {P : Program} (hP : NoCount P) {φ : Phi} {base Ω w} (hr : HRel φ base Ω w) {T : Tr Value} {n : Nat} {a : Act} (ht : TRel φ T n a.tmps) {o : Oper} {out : Out} (h : aop P T Ω o = some out) :
    OutOk P φ base Ω w (execOp a.eval o) out := by
  unfold aop at h
  unfold execOp
  split at h
  · rename_i x ho
    simp only [Option.map_eq_some_iff] at h
    obtain ⟨v, hv, rfl⟩ := h
    simp only [ho]
    exact ValOk.still hr rfl (ev_sound hr ht hv)
  · rename_i x ho
    simp only [Option.map_eq_some_iff] at h
    obtain ⟨v, hv, rfl⟩ := h
    simp only [ho]
    exact ValOk.still hr rfl (ev_sound hr ht hv)
  · rename_i c x y ho
    simp only [ho]
    split at h
    · rename_i hc
      simp only [Option.map_eq_some_iff] at h
      obtain ⟨v, hv, rfl⟩ := h
      have h1 := ev_sound hr ht hc
      generalize hg : a.eval c = cv at h1
      cases h1
      exact ValOk.still hr (v' := a.eval x) (by simp [asBool]) (ev_sound hr ht hv)
    · rename_i hc
      simp only [Option.map_eq_some_iff] at h
      obtain ⟨v, hv, rfl⟩ := h
      have h1 := ev_sound hr ht hc
      generalize hg : a.eval c = cv at h1
      cases h1
      exact ValOk.still hr (v' := a.eval y) (by simp [asBool]) (ev_sound hr ht hv)
    · cases h
  · rename_i t ho
    simp only [Option.map_eq_some_iff] at h
    obtain ⟨⟨v, Ω'⟩, hv, rfl⟩ := h
    simp only [ho]
    exact ValOk.of (alloc_sound hr hv)
  · rename_i t x ho
    simp only [Option.bind_eq_some_iff, Option.map_eq_some_iff] at h
    obtain ⟨u, hu, ⟨v, Ω'⟩, hv, rfl⟩ := h
    simp only [ho]
    exact ValOk.of (box_sound hr (ev_sound hr ht hu) hv)
  · rename_i t ps ho
    simp only [Option.bind_eq_some_iff, Option.map_eq_some_iff] at h
    obtain ⟨l, hl, v, hv, rfl⟩ := h
    simp only [ho]
    obtain ⟨v', h1, h2⟩ := build_sound (w := w) (parts' := ps.map fun (i, x) => (i, a.eval x)) (by simpa using evParts_sound hr ht hl) hv
    exact ValOk.of ⟨φ, w, v', h1, h2, hr, Stp.refl _ _ _⟩
  · rename_i t n ps ho
    simp only [Option.bind_eq_some_iff, Option.map_eq_some_iff] at h
    obtain ⟨l, hl, ⟨v, Ω'⟩, hv, rfl⟩ := h
    simp only [ho]
    exact ValOk.of (buildSlice_sound hr (parts' := ps.map fun (i, x) => (i, a.eval x)) (by simpa using evParts_sound hr ht hl) hv)
  · rename_i t x ho
    simp only [Option.bind_eq_some_iff, Option.map_eq_some_iff] at h
    obtain ⟨u, hu, v, hv, rfl⟩ := h
    simp only [ho]
    obtain ⟨v', h1, h2⟩ := load_sound hr (ev_sound hr ht hu) hv
    exact ValOk.of ⟨φ, w, v', h1, h2, hr, Stp.refl _ _ _⟩
  · rename_i t x y ho
    simp only [Option.bind_eq_some_iff, Option.map_eq_some_iff] at h
    obtain ⟨u, hu, u2, hu2, Ω', hv, rfl⟩ := h
    simp only [ho]
    obtain ⟨w', h1, h2, h3⟩ := store_sound hr (ev_sound hr ht hu) (ev_sound hr ht hu2) hv
    exact ⟨φ, w', .skip, undef, by simp [h1], .inr ⟨rfl, rfl⟩, VRel.undef φ, h2, h3⟩
  · rename_i x ho
    simp only [ho]
    split at h
    · rename_i ad hv
      injection h with h
      subst h
      have h1 := ev_sound hr ht hv
      generalize hg : a.eval x = cv at h1
      cases h1 with
      | ptr o hb => exact ValOk.still hr rfl (.ptr o hb)
    · rename_i f xs ys hv
      injection h with h
      subst h
      have h1 := ev_sound hr ht hv
      obtain ⟨xs', ys', he, h2, h3⟩ := LRel.of_func h1
      rw [he] at h1 ⊢
      exact ValOk.still hr rfl h1
    · cases h
  · rename_i op t x y yt ho
    simp only [Option.bind_eq_some_iff, Option.map_eq_some_iff] at h
    obtain ⟨u, hu, u2, hu2, v, hv, rfl⟩ := h
    simp only [ho]
    obtain ⟨h1, h2⟩ := binAll_sound (P := P) (w := w) (ox := x) (oy := y) (ev_sound hr ht hu) (ev_sound hr ht hu2) hv
    exact ValOk.of ⟨φ, w, v, h1, h2, hr, Stp.refl _ _ _⟩
  · rename_i op t x ho
    simp only [Option.bind_eq_some_iff, Option.map_eq_some_iff] at h
    obtain ⟨u, hu, v, hv, rfl⟩ := h
    simp only [ho]
    obtain ⟨h1, h2⟩ := unOp_sound (P := P) (w := w) (ev_sound hr ht hu) hv
    exact ValOk.of ⟨φ, w, v, h1, h2, hr, Stp.refl _ _ _⟩
  · rename_i s d x ho
    simp only [Option.bind_eq_some_iff] at h
    obtain ⟨u, hu, h⟩ := h
    simp only [ho]
    split at h
    · rename_i v hv
      injection h with h
      subst h
      obtain ⟨h1, h2⟩ := conv_sound (P := P) hr (ev_sound hr ht hu) hv
      exact ValOk.of ⟨φ, w, v, h1, h2, hr, Stp.refl _ _ _⟩
    · simp only [Option.map_eq_some_iff] at h
      obtain ⟨⟨v, Ω'⟩, hv, rfl⟩ := h
      exact ValOk.of (strBytes_sound hr (ev_sound hr ht hu) hv)
  · rename_i fn first captured ho
    simp only [Option.bind_eq_some_iff, Option.map_eq_some_iff] at h
    obtain ⟨xs, hxs, ys, hys, rfl⟩ := h
    simp only [ho]
    have h1 := evs_sound hr ht hxs
    have h2 := evs_sound hr ht hys
    refine ValOk.of ⟨φ, w, .func fn (first.map a.eval) (captured.map a.eval), rfl, ?_, hr, Stp.refl _ _ _⟩
    have := LRel.func fn h1 h2
    have e1 : first.map a.eval = ⟨first.toList.map a.eval⟩ := Array.ext' (by simp)
    have e2 : captured.map a.eval = ⟨captured.toList.map a.eval⟩ := Array.ext' (by simp)
    rw [e1, e2]; exact this
  · rename_i t l c ho
    simp only [Option.bind_eq_some_iff, Option.map_eq_some_iff] at h
    obtain ⟨u, hu, u2, hu2, ⟨v, Ω'⟩, hv, rfl⟩ := h
    simp only [ho]
    exact ValOk.of (makeSlice_sound hr (ev_sound hr ht hu) (ev_sound hr ht hu2) hv)
  · rename_i t x lo hi mx ho
    simp only [Option.bind_eq_some_iff, Option.map_eq_some_iff] at h
    obtain ⟨u, hu, lo', hlo, hi', hhi, mx', hmx, v, hv, rfl⟩ := h
    simp only [ho]
    obtain ⟨v', h1, h2⟩ := slice_sound (P := P) (w := w) (ev_sound hr ht hu) (evO_sound hr ht hlo) (evO_sound hr ht hhi) (evO_sound hr ht hmx) hv
    exact ValOk.of ⟨φ, w, v', h1, h2, hr, Stp.refl _ _ _⟩
  · rename_i s x f ho
    simp only [Option.bind_eq_some_iff, Option.map_eq_some_iff] at h
    obtain ⟨u, hu, v, hv, rfl⟩ := h
    simp only [ho]
    obtain ⟨v', h1, h2⟩ := fieldAddr_sound (P := P) (w := w) (ev_sound hr ht hu) hv
    exact ValOk.of ⟨φ, w, v', h1, h2, hr, Stp.refl _ _ _⟩
  · rename_i t x f ho
    simp only [Option.bind_eq_some_iff, Option.map_eq_some_iff] at h
    obtain ⟨u, hu, v, hv, rfl⟩ := h
    simp only [ho]
    obtain ⟨v', h1, h2⟩ := field_sound (P := P) (w := w) (ev_sound hr ht hu) hv
    exact ValOk.of ⟨φ, w, v', h1, h2, hr, Stp.refl _ _ _⟩
  · rename_i t x i ho
    simp only [Option.bind_eq_some_iff, Option.map_eq_some_iff] at h
    obtain ⟨u, hu, u2, hu2, v, hv, rfl⟩ := h
    simp only [ho]
    obtain ⟨v', h1, h2⟩ := indexAddr_sound (P := P) (w := w) (ev_sound hr ht hu) (ev_sound hr ht hu2) hv
    exact ValOk.of ⟨φ, w, v', h1, h2, hr, Stp.refl _ _ _⟩
  · rename_i t x i ho
    simp only [Option.bind_eq_some_iff, Option.map_eq_some_iff] at h
    obtain ⟨u, hu, u2, hu2, v, hv, rfl⟩ := h
    simp only [ho]
    obtain ⟨h1, h2⟩ := index_sound (P := P) (w := w) (ev_sound hr ht hu) (ev_sound hr ht hu2) hv
    exact ValOk.of ⟨φ, w, v, h1, h2, hr, Stp.refl _ _ _⟩
  · rename_i x i ho
    simp only [Option.bind_eq_some_iff, Option.map_eq_some_iff] at h
    obtain ⟨u, hu, v, hv, rfl⟩ := h
    simp only [ho]
    obtain ⟨v', h1, h2⟩ := extract_sound (P := P) (w := w) (ev_sound hr ht hu) hv
    exact ValOk.of ⟨φ, w, v', h1, h2, hr, Stp.refl _ _ _⟩
  · rename_i c ho
    simp only [ho]
    exact callOp_sound hP hr ht h
  · rename_i t x ho
    simp only [Option.bind_eq_some_iff, Option.map_eq_some_iff] at h
    obtain ⟨u, hu, v, hv, rfl⟩ := h
    simp only [ho]
    obtain ⟨v', h1, h2⟩ := mkIface_sound (P := P) (w := w) (ev_sound hr ht hu) hv
    exact ValOk.of ⟨φ, w, v', h1, h2, hr, Stp.refl _ _ _⟩
  · rename_i x xt asserted ho
    simp only [Option.bind_eq_some_iff, Option.map_eq_some_iff] at h
    obtain ⟨u, hu, v, hv, rfl⟩ := h
    simp only [ho]
    obtain ⟨v', h1, h2⟩ := assert_sound (P := P) (w := w) (xt := xt) (ev_sound hr ht hu) hv
    exact ValOk.of ⟨φ, w, v', h1, h2, hr, Stp.refl _ _ _⟩
  · rename_i t ho
    simp only [Option.map_eq_some_iff] at h
    obtain ⟨⟨v, Ω'⟩, hv, rfl⟩ := h
    simp only [ho]
    exact ValOk.of (makeMap_sound hr hv)
  · rename_i t m k x ho
    simp only [Option.bind_eq_some_iff, Option.map_eq_some_iff] at h
    obtain ⟨u, hu, u2, hu2, u3, hu3, Ω', hv, rfl⟩ := h
    simp only [ho]
    obtain ⟨w', h1, h2, h3⟩ := mapSet_sound hr (ev_sound hr ht hu) (ev_sound hr ht hu2) (ev_sound hr ht hu3) hv
    exact ⟨φ, w', .skip, undef, by simp [h1], .inr ⟨rfl, rfl⟩, VRel.undef φ, h2, h3⟩
  · rename_i t m k x ho
    simp only [Option.bind_eq_some_iff, Option.map_eq_some_iff] at h
    obtain ⟨u, hu, u2, hu2, u3, hu3, Ω', hv, rfl⟩ := h
    simp only [ho]
    obtain ⟨w', h1, h2, h3⟩ := mapSet_sound hr (ev_sound hr ht hu) (ev_sound hr ht hu2) (ev_sound hr ht hu3) hv
    exact ⟨φ, w', .skip, undef, by simp [h1], .inr ⟨rfl, rfl⟩, VRel.undef φ, h2, h3⟩
  · rename_i t x ix ok ho
    simp only [Option.bind_eq_some_iff, Option.map_eq_some_iff] at h
    obtain ⟨u, hu, u2, hu2, v, hv, rfl⟩ := h
    simp only [ho]
    obtain ⟨v', h1, h2⟩ := lookup_sound (P := P) hr (ev_sound hr ht hu) (ev_sound hr ht hu2) hv
    exact ValOk.of ⟨φ, w, v', h1, h2, hr, Stp.refl _ _ _⟩
  · rename_i t x ho
    simp only [Option.bind_eq_some_iff, Option.map_eq_some_iff] at h
    obtain ⟨u, hu, ⟨v, Ω'⟩, hv, rfl⟩ := h
    simp only [ho]
    exact ValOk.of (range_sound hr (ev_sound hr ht hu) hv)
  · rename_i it str ho
    simp only [Option.bind_eq_some_iff, Option.map_eq_some_iff] at h
    obtain ⟨u, hu, v, hv, rfl⟩ := h
    simp only [ho]
    obtain ⟨h1, h2⟩ := next_sound (P := P) (ty := o.type) hr (ev_sound hr ht hu) hv
    exact ValOk.of ⟨φ, w, v, h1, h2, hr, Stp.refl _ _ _⟩
  · rename_i x ho
    simp only [ho]
    split at h
    · rename_i t v hv
      injection h with h
      subst h
      have h1 := ev_sound hr ht hv
      generalize hg : a.eval x = cv at h1
      cases h1 with
      | iface _ _ v' hv => exact ⟨.iface t v', by simp [Instr.panic, goPanic], .iface _ _ _ hv⟩
    · cases h
  · cases h

end Go.Ev
