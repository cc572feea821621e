/- Regions, code, calls: the evaluator and its soundness. -/
import Derived.Test.YtgnbcaebopajoaaGreatDoorEvOp
import Derived.Scope
namespace Go.Ev
open Go.RowKit

structure St where
  T : Tr Value
  Ω : Om

abbrev CallF := FuncId → List Value → Om → Option (Value × Om)

def putT (T : Tr Value) (n : Nat) (dst : Option Tmp) (v : Value) : Option (Tr Value) :=
  match dst with
  | none => some T
  | some d => if d < n then (if n < Tr.most then some (T.set d (some v)) else none) else none

def yieldedA (ops : Array Oper) (T : Tr Value) (j : Nat) : Option Bool :=
  match (ops[j]?).bind (·.dst) with
  | some d => match evT T d with
    | .bool b => some b
    | _ => none
  | none => none

def wantedA (ops : Array Oper) (T : Tr Value) (o : Oper) : Bool :=
  match o.guard with
  | none => true
  | some (j, want) => match yieldedA ops T j with
    | some b => b == want
    | none => false

/-- How a call ends: with a value, or with a panic. -/
inductive Res where
  | ret (v : Value)
  | pan (v : Value)

abbrev CallG := FuncId → List Value → Om → Option (Res × Om)

/-- Of the calls, those that end with a value. -/
def CallG.only (call : CallG) : CallF := fun f args Ω =>
  match call f args Ω with
  | some (.ret v, Ω) => some (v, Ω)
  | _ => none

inductive OpR where
  | ok (s : St)
  | pan (v : Value) (s : St)

def evOp (P : Program) (call : CallG) (n : Nat) (ops : Array Oper) (o : Oper) (s : St) : Option OpR :=
  match wantedA ops s.T o with
  | true =>
    match aop P s.T s.Ω o with
    | some (.val v Ω) => (putT s.T n o.dst v).map fun T => .ok ⟨T, Ω⟩
    | some (.call f args) =>
      match call f args s.Ω with
      | some (.ret v, Ω) => (putT s.T n o.dst v).map fun T => .ok ⟨T, Ω⟩
      | some (.pan v, Ω) => some (.pan v ⟨s.T, Ω⟩)
      | none => none
    | some (.pan v) => some (.pan v s)
    | none => none
  | false => (putT s.T n o.dst undef).map fun T => .ok ⟨T, s.Ω⟩

def evOps (P : Program) (call : CallG) (n : Nat) (ops : Array Oper) : List Oper → St → Option OpR
  | [], s => some (.ok s)
  | o :: r, s => match evOp P call n ops o s with
    | some (.ok s) => evOps P call n ops r s
    | x => x

/-! ### Soundness of regions that draw no order -/
structure StRel (ds : List Deferred) (φ : Phi) (base n : Nat) (s : St) (a : Act) (w : World) : Prop where
  tmps : TRel φ s.T n a.tmps
  defers : a.defers = ds
  heap : HRel φ base s.Ω w

def CPost (φ : Phi) (base : Nat) (Ω : Om) (w : World) (v : Value) (Ω' : Om) : Ending → World → Prop := fun e w' =>
  ∃ φ' v', e = .returned v' ∧ VRel φ' v v' ∧ HRel φ' base Ω' w' ∧ Stp φ Ω w φ' Ω' w'

def CallOk (P : Program) (call : CallF) : Prop := ∀ f args Ω v Ω', call f args Ω = some (v, Ω') → ∀ φ base w args', HRel φ base Ω w → LRel φ args args' → Calls P f args'.toArray w (CPost φ base Ω w v Ω')

def RPost (φ : Phi) (base : Nat) (Ω : Om) (w : World) : Res → Om → Ending → World → Prop
  | .ret v, Ω' => CPost φ base Ω w v Ω'
  | .pan v, Ω' => fun e w' => ∃ φ' v', e = .panicked [{ v := v', recovered := false }] ∧ VRel φ' v v' ∧ HRel φ' base Ω' w' ∧ Stp φ Ω w φ' Ω' w'

def CallGOk (P : Program) (call : CallG) : Prop := ∀ f args Ω r Ω', call f args Ω = some (r, Ω') → ∀ φ base w args', HRel φ base Ω w → LRel φ args args' → Calls P f args'.toArray w (RPost φ base Ω w r Ω')

theorem CallGOk.only {P : Program} {call : CallG} (h : CallGOk P call) : CallOk P call.only := by
  intro f args Ω v Ω' hc
  unfold CallG.only at hc
  split at hc
  · rename_i u Ω1 h1
    injection hc with hc
    injection hc with e1 e2
    subst e1 e2
    exact fun φ base w args' hr hl => h f args Ω _ _ h1 φ base w args' hr hl
  · cases hc

theorem TRel.mono {φ φ' : Phi} (he : Ext φ φ') {T : Tr Value} {n : Nat} {tmps : Array Value} (h : TRel φ T n tmps) : TRel φ' T n tmps := ⟨h.size, fun t => (h.vals t).mono he⟩

theorem TRel.put {φ : Phi} {T T' : Tr Value} {n : Nat} {a : Act} {dst : Option Tmp} {v v' : Value} (h : TRel φ T n a.tmps) (hv : VRel φ v v') (hp : putT T n dst v = some T') : TRel φ T' n (a.put dst v').tmps := by
  unfold putT at hp
  cases dst with
  | none => injection hp with hp; subst hp; exact h
  | some d =>
    simp only at hp
    split at hp
    · rename_i hd
      split at hp
      · rename_i hn
        injection hp with hp
        subst hp
        refine ⟨by simp [Act.put, h.size], fun t => ?_⟩
        simp only [Act.put, evT, Tr.get_set _ _ _ _ (Nat.lt_trans hd hn)]
        by_cases ht : t = d
        · subst ht
          have : t < a.tmps.size := by rw [h.size]; exact hd
          simp [Array.getD_eq_getD_getElem?, this]; exact hv
        · have e : (a.tmps.setIfInBounds d v').getD t undef = a.tmps.getD t undef := by
            simp [Array.getD_eq_getD_getElem?, Ne.symm ht]
          rw [e, if_neg ht]
          exact h.vals t
      · cases hp
    · cases hp

theorem put_defers (a : Act) (dst : Option Tmp) (v : Value) : (a.put dst v).defers = a.defers := by
  cases dst <;> rfl

theorem wanted_eq {φ : Phi} {T : Tr Value} {n : Nat} {tmps : Array Value} (h : TRel φ T n tmps) (ops : Array Oper) (o : Oper) : Region.wanted o (yielded ops tmps) = wantedA ops T o := by
  unfold Region.wanted wantedA
  cases o.guard with
  | none => rfl
  | some g =>
    obtain ⟨j, want⟩ := g
    have e : yielded ops tmps j = yieldedA ops T j := by
      unfold yielded yieldedA
      cases hd : (ops[j]?).bind (·.dst) with
      | none => simp
      | some d =>
        simp only [Option.bind_some]
        have hv := h.vals d
        rw [Array.getD_eq_getD_getElem?] at hv
        cases ht : tmps[d]? with
        | none =>
          rw [ht] at hv
          simp only [Option.getD_none] at hv
          generalize evT T d = x at hv ⊢
          cases hv
          rfl
        | some y =>
          rw [ht] at hv
          simp only [Option.getD_some] at hv
          generalize evT T d = x at hv ⊢
          cases hv <;> rfl
    simp only [e]
    cases yieldedA ops T j with
    | none => rfl
    | some b => cases b <;> cases want <;> rfl

section
variable {ds : List Deferred}

/-- Where an operation or a stretch of them leads. -/
def OpR.Leads (Q : Exit → Act → World → Prop) (ds : List Deferred) (φ : Phi) (base n : Nat) (s : St) (w : World) (next : Act → World → Prop) : OpR → Prop
  | .ok s' => ∀ φ' a' w', StRel ds φ' base n s' a' w' → Stp φ s.Ω w φ' s'.Ω w' → next a' w'
  | .pan v s' => ∀ φ' a' w' v', StRel ds φ' base n s' a' w' → Stp φ s.Ω w φ' s'.Ω w' → VRel φ' v v' → Q (.panic [{ v := v', recovered := false }]) a' w'

theorem OpR.Leads.step {Q : Exit → Act → World → Prop} {φ φ1 : Phi} {base n : Nat} {s s1 : St} {w w1 : World} {next : Act → World → Prop} {r : OpR} (h : r.Leads Q ds φ base n s w next) (st : Stp φ s.Ω w φ1 s1.Ω w1) : r.Leads Q ds φ1 base n s1 w1 next := by
  cases r with
  | ok s' => exact fun φ' a' w' hs' st' => h φ' a' w' hs' (st.trans st')
  | pan v s' => exact fun φ' a' w' v' hs' st' hv => h φ' a' w' v' hs' (st.trans st') hv

theorem evOp_wp {P : Program} (hP : NoCount P) {call : CallG} (hc : CallGOk P call) {n : Nat} {ops : Array Oper} {o : Oper} {s : St} {r : OpR} (h : evOp P call n ops o s = some r)
    {φ : Phi} {base : Nat} {a : Act} {w : World} (hs : StRel ds φ base n s a w) {next : Act → World → Prop} {Q : Exit → Act → World → Prop}
    (hn : r.Leads Q ds φ base n s w next) :
    (wantedA ops s.T o = true → o.wp P a w next Q) ∧ (wantedA ops s.T o = false → next (a.put o.dst undef) w) := by
  unfold evOp at h
  split at h
  · rename_i hw
    refine ⟨fun _ => ?_, fun hf => (by rw [hw] at hf; cases hf)⟩
    split at h
    · rename_i v Ω ha
      simp only [Option.map_eq_some_iff] at h
      obtain ⟨T, hT, rfl⟩ := h
      obtain ⟨φ', w', nx, v', h1, h2, h3, h4, h5⟩ := aop_sound hP hs.heap hs.tmps ha
      unfold Oper.wp
      rw [h1]
      have key := hn φ' (a.put o.dst v') w' ⟨(hs.tmps.mono h5.ext).put h3 hT, by rw [put_defers]; exact hs.defers, h4⟩ h5
      rcases h2 with rfl | ⟨rfl, rfl⟩
      · exact key
      · exact key
    · rename_i f args ha
      obtain ⟨args', h1, h2⟩ := aop_sound hP hs.heap hs.tmps ha
      split at h
      · rename_i v Ω hcall
        simp only [Option.map_eq_some_iff] at h
        obtain ⟨T, hT, rfl⟩ := h
        unfold Oper.wp
        rw [h1]
        have hcl := hc f args s.Ω _ Ω hcall φ base w args'.toList hs.heap h2
        refine Calls.mono (by simpa using hcl) ?_
        rintro e w' ⟨φ', v', rfl, h3, h4, h5⟩
        exact hn φ' (a.put o.dst v') w' ⟨(hs.tmps.mono h5.ext).put h3 hT, by rw [put_defers]; exact hs.defers, h4⟩ h5
      · rename_i v Ω hcall
        injection h with h
        subst h
        unfold Oper.wp
        rw [h1]
        have hcl := hc f args s.Ω _ Ω hcall φ base w args'.toList hs.heap h2
        refine Calls.mono (by simpa using hcl) ?_
        rintro e w' ⟨φ', v', rfl, h3, h4, h5⟩
        exact hn φ' a w' v' ⟨hs.tmps.mono h5.ext, hs.defers, h4⟩ h5 h3
      · cases h
    · rename_i v ha
      injection h with h
      subst h
      obtain ⟨v', h1, h2⟩ := aop_sound hP hs.heap hs.tmps ha
      unfold Oper.wp
      rw [h1]
      exact hn φ a w v' hs (Stp.refl _ _ _) h2
    · cases h
  · rename_i hw
    refine ⟨fun hf => (by rw [hw] at hf; cases hf), fun _ => ?_⟩
    simp only [Option.map_eq_some_iff] at h
    obtain ⟨T, hT, rfl⟩ := h
    exact hn φ (a.put o.dst undef) w ⟨hs.tmps.put (VRel.undef φ) hT, by rw [put_defers]; exact hs.defers, hs.heap⟩ (Stp.refl _ _ _)

theorem evOps_wp {P : Program} (hP : NoCount P) {call : CallG} (hc : CallGOk P call) {n : Nat} {ops : Array Oper} {base : Nat} {Q : Exit → Act → World → Prop} : ∀ (l : List Oper) (k : Nat) {s : St} {r : OpR} {φ : Phi} {a : Act} {w : World} {rest : List Nat},
    (∀ i, i < l.length → ops[k + i]? = l[i]?) → evOps P call n ops l s = some r → StRel ds φ base n s a w →
    r.Leads Q ds φ base n s w (wpOps P ops Q rest) → wpOps P ops Q (List.range' k l.length ++ rest) a w := by
  intro l
  induction l with
  | nil =>
    intro k s r φ a w rest _ h hs hq
    injection h with h
    subst h
    exact hq φ a w hs (Stp.refl _ _ _)
  | cons o r ih =>
    intro k s r' φ a w rest hl h hs hq
    have ho : ops[k]? = some o := by have := hl 0 (by simp); simpa using this
    simp only [evOps] at h
    simp only [List.length_cons, List.range'_succ, List.cons_append, wpOps, ho]
    rw [wanted_eq hs.tmps ops o]
    have key : (wantedA ops s.T o = true → o.wp P a w (wpOps P ops Q (List.range' (k + 1) r.length ++ rest)) Q) ∧ (wantedA ops s.T o = false → wpOps P ops Q (List.range' (k + 1) r.length ++ rest) (a.put o.dst undef) w) := by
      split at h
      · rename_i s1 h1
        exact evOp_wp hP hc h1 hs
          (fun φ' a' w' hs' st => ih (k + 1) (fun i hi => by have := hl (i + 1) (by simpa using hi); simpa [Nat.add_assoc, Nat.add_comm, Nat.add_left_comm] using this) h hs' (hq.step st))
      · rename_i x hx
        cases r' with
        | ok s' => exact absurd h (hx s')
        | pan v s' => exact evOp_wp hP hc h hs hq
    split
    · rename_i hw; exact .inl (key.1 hw)
    · rename_i hw; exact key.2 (by simpa using hw)

end

/-- A region that draws no order. -/
theorem region_wp {P : Program} {Q : Exit → Act → World → Prop} {a : Act} {w : World} {id : Nat} {ops : Array Oper} (h : wpOps P ops Q (List.range ops.size) a w) : (Code.region id ops false).wp P Q a w := by
  intro b k cs
  obtain ⟨e, a', w', hq, harr⟩ := wp_ops (P := P) (ops := ops) (Q := Q) _ a w h b k cs
  exact ⟨e, a', w', hq, .of_steps (.one step_region) harr⟩

/-! ### Code -/
inductive Ex where
  | normal
  | exit (id : Nat)
  | ret
  | pan (v : Value)

def Ex.Is (φ : Phi) : Ex → Exit → Prop
  | .normal, e => e = .normal
  | .exit id, e => e = .exit id
  | .ret, e => e = .ret
  | .pan v, e => ∃ v', e = .panic [{ v := v', recovered := false }] ∧ VRel φ v v'

def Ex.goes : Ex → Bool
  | .normal => true
  | _ => false

theorem Ex.Is.pass {φ : Phi} {x : Ex} {e : Exit} (h : x.Is φ e) (hx : x.goes = false) {N : Act → World → Prop} {Q : Exit → Act → World → Prop} {a : Act} {w : World} (hq : Q e a w) : Exit.then N Q e a w := by
  cases x with
  | normal => cases hx
  | exit id => cases h; exact hq
  | ret => cases h; exact hq
  | pan v => obtain ⟨v', rfl, _⟩ := h; exact hq

/-- What makes of a region that draws its order. -/
abbrev DrawF := Nat → Array Oper → St → Option St

def evCode (P : Program) (call : CallG) (draw : DrawF) (n : Nat) : Nat → Code → St → Option (Ex × St)
  | 0, _, _ => none
  | f + 1, c, s =>
    match c with
    | .skip => some (.normal, s)
    | .label _ => some (.normal, s)
    | .region id ops d =>
      match d with
      | false => match evOps P call n ops ops.toList s with
        | some (.ok s) => some (.normal, s)
        | some (.pan v s) => some (.pan v, s)
        | none => none
      | true => match draw id ops s with
        | some s => some (.normal, s)
        | none => none
    | .seq a b =>
      match evCode P call draw n f a s with
      | some (.normal, s) => evCode P call draw n f b s
      | r => r
    | .cond c a b =>
      match ev s.T s.Ω.gl c with
      | some (.bool true) => evCode P call draw n f a s
      | some (.bool false) => evCode P call draw n f b s
      | _ => none
    | .block id c =>
      match evCode P call draw n f c s with
      | some (.exit id', s) => match Nat.beq id' id with
        | true => some (.normal, s)
        | false => some (.exit id', s)
      | r => r
    | .loop c =>
      match evCode P call draw n f c s with
      | some (.normal, s) => evCode P call draw n f (.loop c) s
      | r => r
    | .exit id => some (.exit id, s)
    | .ret => some (.ret, s)
    | _ => none

def DrawOk (P : Program) (draw : DrawF) (n : Nat) : Prop := ∀ id ops s s', draw id ops s = some s' → ∀ ds φ base a w, StRel ds φ base n s a w → ∀ Q : Exit → Act → World → Prop,
  (∀ φ' a' w', StRel ds φ' base n s' a' w' → Stp φ s.Ω w φ' s'.Ω w' → Q .normal a' w') → (Code.region id ops true).wp P Q a w

/-- A loop, its first step taken. -/
def LoopAt (P : Program) (c : Code) (Q : Exit → Act → World → Prop) (a : Act) (w : World) : Prop := ∀ (b : Frame) (k : List Item) (cs : List Frame),
  ∃ e a' w', Q e a' w' ∧ Arrives P (lone (b.at a (.code c :: .inLoop c :: k)) cs w) b k cs e a' w'

theorem LoopAt.wp {P : Program} {c : Code} {Q : Exit → Act → World → Prop} {a : Act} {w : World} (h : LoopAt P c Q a w) : (Code.loop c).wp P Q a w := by
  intro b k cs
  obtain ⟨e, a', w', hq, harr⟩ := h b k cs
  exact ⟨e, a', w', hq, .of_steps (.one step_loop) harr⟩

theorem LoopAt.round {P : Program} {c : Code} {Q : Exit → Act → World → Prop} {a : Act} {w : World} (h : c.wp P (Exit.then (LoopAt P c Q) Q) a w) : LoopAt P c Q a w := by
  intro b k cs
  obtain ⟨e, a₁, w₁, hq, harr⟩ := h b (.inLoop c :: k) cs
  cases e with
  | normal =>
    obtain ⟨e₂, a₂, w₂, hq₂, harr₂⟩ := hq b k cs
    exact ⟨e₂, a₂, w₂, hq₂, .of_steps (Steps.trans harr (.one step_inLoop)) harr₂⟩
  | exit id => exact ⟨_, a₁, w₁, hq, .pass (x := .inLoop c) rfl (fun _ _ => .inl (by simp)) harr⟩
  | goto l => exact ⟨_, a₁, w₁, hq, .pass (x := .inLoop c) rfl (fun _ _ => .inl (by simp)) harr⟩
  | ret => exact ⟨_, a₁, w₁, hq, .pass (x := .inLoop c) rfl (fun _ _ => .inl (by simp)) harr⟩
  | panic ch => exact ⟨_, a₁, w₁, hq, .pass (x := .inLoop c) rfl (fun _ _ => .inl (by simp)) harr⟩
  | outgrown => exact ⟨_, a₁, w₁, hq, .pass (x := .inLoop c) rfl (fun _ _ => .inl (by simp)) harr⟩

theorem evCode_wp {P : Program} (hP : NoCount P) {call : CallG} (hc : CallGOk P call) {draw : DrawF} {n : Nat} (hd : DrawOk P draw n) {ds : List Deferred} : ∀ (f : Nat),
    (∀ (c : Code) {s s' : St} {x : Ex} {φ : Phi} {base : Nat} {a : Act} {w : World} {Q : Exit → Act → World → Prop}, evCode P call draw n f c s = some (x, s') → StRel ds φ base n s a w →
      (∀ φ' a' w' e, StRel ds φ' base n s' a' w' → Stp φ s.Ω w φ' s'.Ω w' → x.Is φ' e → Q e a' w') → c.wp P Q a w) ∧
    (∀ (c : Code) {s s' : St} {x : Ex} {φ : Phi} {base : Nat} {a : Act} {w : World} {Q : Exit → Act → World → Prop}, evCode P call draw n f (.loop c) s = some (x, s') → StRel ds φ base n s a w →
      (∀ φ' a' w' e, StRel ds φ' base n s' a' w' → Stp φ s.Ω w φ' s'.Ω w' → x.Is φ' e → Q e a' w') → LoopAt P c Q a w) := by
  intro f
  induction f with
  | zero => exact ⟨fun c s s' x φ base a w Q h => by simp [evCode] at h, fun c s s' x φ base a w Q h => by simp [evCode] at h⟩
  | succ f ih =>
    obtain ⟨ih1, ih2⟩ := ih
    have loop : ∀ (c : Code) {s s' : St} {x : Ex} {φ : Phi} {base : Nat} {a : Act} {w : World} {Q : Exit → Act → World → Prop}, evCode P call draw n (f + 1) (.loop c) s = some (x, s') → StRel ds φ base n s a w →
      (∀ φ' a' w' e, StRel ds φ' base n s' a' w' → Stp φ s.Ω w φ' s'.Ω w' → x.Is φ' e → Q e a' w') → LoopAt P c Q a w := by
      intro c s s' x φ base a w Q h hs hq
      simp only [evCode] at h
      split at h
      · rename_i s1 h1
        refine LoopAt.round (ih1 c h1 hs fun φ' a' w' e hs' st hx => ?_)
        cases hx
        exact ih2 c h hs' fun φ'' a'' w'' e hs'' st' hx => hq φ'' a'' w'' e hs'' (st.trans st') hx
      · rename_i r hr
        have hx : x.goes = false := by cases x <;> first | rfl | exact absurd h (fun hh => hr _ hh)
        exact LoopAt.round (ih1 c h hs fun φ' a' w' e hs' st he => he.pass hx (hq φ' a' w' e hs' st he))
    refine ⟨fun c s s' x φ base a w Q h hs hq => ?_, loop⟩
    cases c with
    | skip => simp only [evCode, Option.some.injEq, Prod.mk.injEq] at h; obtain ⟨rfl, rfl⟩ := h; exact wp_skip (hq φ a w _ hs (Stp.refl _ _ _) rfl)
    | label l => simp only [evCode, Option.some.injEq, Prod.mk.injEq] at h; obtain ⟨rfl, rfl⟩ := h; exact wp_label (hq φ a w _ hs (Stp.refl _ _ _) rfl)
    | region id ops d =>
      cases d with
      | false =>
        simp only [evCode] at h
        refine region_wp ?_
        have key : ∀ {r}, evOps P call n ops ops.toList s = some r → r.Leads Q ds φ base n s w (wpOps P ops Q []) → wpOps P ops Q (List.range ops.size) a w := by
          intro r hr hl
          have := evOps_wp hP hc (Q := Q) ops.toList 0 (rest := []) (by simp) hr hs hl
          simpa [List.range_eq_range'] using this
        split at h
        · rename_i s1 h1
          simp only [Option.some.injEq, Prod.mk.injEq] at h
          obtain ⟨rfl, rfl⟩ := h
          exact key h1 fun φ' a' w' hs' st => hq φ' a' w' _ hs' st rfl
        · rename_i v s1 h1
          simp only [Option.some.injEq, Prod.mk.injEq] at h
          obtain ⟨rfl, rfl⟩ := h
          exact key h1 fun φ' a' w' v' hs' st hv => hq φ' a' w' _ hs' st ⟨v', rfl, hv⟩
        · cases h
      | true =>
        simp only [evCode] at h
        split at h
        · rename_i s1 h1
          simp only [Option.some.injEq, Prod.mk.injEq] at h
          obtain ⟨rfl, rfl⟩ := h
          exact hd id ops s s1 h1 ds φ base a w hs Q fun φ' a' w' hs' st => hq φ' a' w' _ hs' st rfl
        · cases h
    | seq c1 c2 =>
      simp only [evCode] at h
      split at h
      · rename_i s1 h1
        refine wp_seq (ih1 c1 h1 hs fun φ' a' w' e hs' st hx => ?_)
        cases hx
        exact ih1 c2 h hs' fun φ'' a'' w'' e hs'' st' hx => hq φ'' a'' w'' e hs'' (st.trans st') hx
      · rename_i r hr
        have hx : x.goes = false := by cases x <;> first | rfl | exact absurd h (fun hh => hr _ hh)
        exact wp_seq (ih1 c1 h hs fun φ' a' w' e hs' st he => he.pass hx (hq φ' a' w' e hs' st he))
    | cond c c1 c2 =>
      simp only [evCode] at h
      split at h
      · rename_i he
        have hv := ev_sound hs.heap hs.tmps he
        generalize hg : a.eval c = cv at hv
        cases hv
        exact wp_cond_true hg (ih1 c1 h hs hq)
      · rename_i he
        have hv := ev_sound hs.heap hs.tmps he
        generalize hg : a.eval c = cv at hv
        cases hv
        exact wp_cond_false hg (ih1 c2 h hs hq)
      · cases h
    | block id c =>
      simp only [evCode] at h
      split at h
      · rename_i id' s1 h1
        split at h
        · rename_i hid
          simp only [Option.some.injEq, Prod.mk.injEq] at h
          obtain ⟨rfl, rfl⟩ := h
          have hid' : id' = id := Nat.eq_of_beq_eq_true hid
          refine wp_block (ih1 c h1 hs fun φ' a' w' e hs' st hx => ?_)
          cases hx
          simp only [Exit.inBlock, hid', if_true]
          exact hq φ' a' w' _ hs' st rfl
        · rename_i hid
          simp only [Option.some.injEq, Prod.mk.injEq] at h
          obtain ⟨rfl, rfl⟩ := h
          have hid' : id' ≠ id := Nat.ne_of_beq_eq_false hid
          refine wp_block (ih1 c h1 hs fun φ' a' w' e hs' st hx => ?_)
          cases hx
          simp only [Exit.inBlock, hid', if_false]
          exact hq φ' a' w' _ hs' st rfl
      · rename_i r hr
        refine wp_block (ih1 c h hs fun φ' a' w' e hs' st hx => ?_)
        cases x with
        | normal => cases hx; exact hq φ' a' w' _ hs' st rfl
        | exit id' => exact absurd h (fun hh => hr _ _ hh)
        | ret => cases hx; exact hq φ' a' w' _ hs' st rfl
        | pan v => obtain ⟨v', rfl, hv⟩ := hx; exact hq φ' a' w' _ hs' st ⟨v', rfl, hv⟩
    | loop c => exact (loop c h hs hq).wp
    | exit id => simp only [evCode, Option.some.injEq, Prod.mk.injEq] at h; obtain ⟨rfl, rfl⟩ := h; exact wp_exit (hq φ a w _ hs (Stp.refl _ _ _) rfl)
    | ret => simp only [evCode, Option.some.injEq, Prod.mk.injEq] at h; obtain ⟨rfl, rfl⟩ := h; exact wp_ret (hq φ a w _ hs (Stp.refl _ _ _) rfl)
    | scope c => simp [evCode] at h
    | goto l => simp [evCode] at h
    | rangeFunc _ _ _ _ => simp [evCode] at h
    | refuse _ => simp [evCode] at h

/-! ### Calls -/
def argsT (T : Tr Value) : Nat → List Value → Tr Value
  | _, [] => T
  | k, v :: r => argsT (T.set k (some v)) (k + 1) r

def resOne (P : Program) (s : St) : ResultVar → Option Value
  | .tmp t => some (evT s.T t)
  | .cell a t => loadOp P s.Ω t (evT s.T a)

def resAll (P : Program) (s : St) : List ResultVar → Option (List Value)
  | [] => some []
  | r :: rs => match resOne P s r, resAll P s rs with
    | some v, some l => some (v :: l)
    | _, _ => none

def resultOf (P : Program) (s : St) (rs : List ResultVar) : Option Value :=
  match resAll P s rs with
  | some [v] => some v
  | some l => some (.tuple ⟨l⟩)
  | none => none

/-- What is known of functions from elsewhere. It may lean on the calls below it. -/
abbrev Ora := CallG → FuncId → Option (List Value → Om → Option (Res × Om))

/-- How a body's end is a call's. -/
def endOf (P : Program) (fn : Func) : Option (Ex × St) → Option (Res × Om)
  | some (.normal, s) => (resultOf P s fn.results.toList).map fun v => (.ret v, s.Ω)
  | some (.ret, s) => (resultOf P s fn.results.toList).map fun v => (.ret v, s.Ω)
  | some (.pan v, s) => some (.pan v, s.Ω)
  | _ => none

def evCall (P : Program) (ora : Ora) (drawF : CallF → Nat → DrawF) (fuel : Nat) : Nat → CallG
  | 0, _, _, _ => none
  | d + 1, f, args, Ω =>
    match ora (evCall P ora drawF fuel d) f with
    | some g => g args Ω
    | none =>
      match P.funcs[f]? with
      | some fn =>
        match fn.body with
        | some c =>
          if args.length ≤ fn.ntmps then
            if fn.ntmps < Tr.most then
              endOf P fn (evCode P (evCall P ora drawF fuel d) (drawF (evCall P ora drawF fuel d).only fn.ntmps) fn.ntmps fuel c ⟨argsT .nil 0 args, Ω⟩)
            else none
          else none
        | none => none
      | none => none

def OraOk (P : Program) (ora : Ora) : Prop := ∀ call, CallGOk P call → ∀ f g, ora call f = some g → ∀ args Ω r Ω', g args Ω = some (r, Ω') → ∀ φ base w args', HRel φ base Ω w → LRel φ args args' → Calls P f args'.toArray w (RPost φ base Ω w r Ω')

theorem argsT_get : ∀ (l : List Value) (T : Tr Value) (k t : Nat), k + l.length < Tr.most → evT (argsT T k l) t = if k ≤ t ∧ t < k + l.length then l.getD (t - k) undef else evT T t := by
  intro l
  induction l with
  | nil => intro T k t _; have : ¬ (k ≤ t ∧ t < k + ([] : List Value).length) := by simp
           rw [if_neg this]; rfl
  | cons v r ih =>
    intro T k t hk
    simp only [List.length_cons] at hk ⊢
    simp only [argsT]
    rw [ih _ (k + 1) t (by omega)]
    by_cases h1 : k + 1 ≤ t ∧ t < k + 1 + r.length
    · rw [if_pos h1, if_pos (by omega)]
      obtain ⟨j, rfl⟩ : ∃ j, t = k + (j + 1) := ⟨t - k - 1, by omega⟩
      have a1 : k + (j + 1) - (k + 1) = j := by omega
      have a2 : k + (j + 1) - k = j + 1 := by omega
      rw [a1, a2]; simp
    · rw [if_neg h1]
      simp only [evT, Tr.get_set _ _ _ _ (show k < Tr.most by omega)]
      by_cases h2 : t = k
      · subst h2
        rw [if_pos rfl, if_pos (by omega)]
        simp
      · rw [if_neg h2, if_neg (by omega)]

def resSem (tmps : Array Value) : ResultVar → Sem Value
  | .tmp t => pure (tmps.getD t undef)
  | .cell a t => do loadVar t (← asAddr (tmps.getD a undef))

theorem results_eq (fn : Func) (tmps : Array Value) : results fn tmps = (do let vs ← fn.results.mapM (resSem tmps); Pure.pure (if h : vs.size = 1 then vs[0] else Value.tuple vs) : Sem Value) := by
  unfold results
  congr 1

theorem resOne_sound {P : Program} {ds φ base n s a w} (hs : StRel ds φ base n s a w) {r : ResultVar} {v : Value} (h : resOne P s r = some v) :
    ∃ v', (resSem a.tmps r).run P w = .ok v' w ∧ VRel φ v v' := by
  cases r with
  | tmp t =>
    simp only [resOne] at h
    injection h with h
    subst h
    exact ⟨_, rfl, hs.tmps.vals t⟩
  | cell ad t =>
    simp only [resOne] at h
    have hv := hs.tmps.vals ad
    have hh := h
    unfold loadOp at h
    split at h
    · rename_i b o hp
      rw [hp] at hv hh
      generalize hg : a.tmps.getD ad undef = pv at hv
      cases hv with
      | ptr _ hb =>
        obtain ⟨v', h1, h2⟩ := loadVar_sound hs.heap hb hh
        exact ⟨v', by simp only [resSem, hg, asAddr, Sem.run_bind, Sem.run_pure, Result.andThen_ok, h1], h2⟩
    · cases h

theorem resAll_sound {P : Program} {ds φ base n s a w} (hs : StRel ds φ base n s a w) : ∀ {rs : List ResultVar} {l : List Value}, resAll P s rs = some l →
    ∃ l', (rs.mapM (resSem a.tmps) : Sem (List Value)).run P w = .ok l' w ∧ LRel φ l l' := by
  intro rs
  induction rs with
  | nil => intro l h; injection h with h; subst h; exact ⟨[], rfl, LRel.nil φ⟩
  | cons r rs ih =>
    intro l h
    simp only [resAll] at h
    split at h
    · rename_i v l1 h1 h2
      injection h with h
      subst h
      obtain ⟨v', e1, r1⟩ := resOne_sound hs h1
      obtain ⟨l', e2, r2⟩ := ih h2
      refine ⟨v' :: l', ?_, LRel.cons r1 r2⟩
      rw [List.mapM_cons]
      simp only [Sem.run_bind, e1, Result.andThen_ok, e2, Sem.run_pure]
    · cases h

theorem results_sound {P : Program} {ds φ base n s a w} (hs : StRel ds φ base n s a w) {fn : Func} {v : Value} (h : resultOf P s fn.results.toList = some v) :
    ∃ v', (results fn a.tmps).run P w = .ok v' w ∧ VRel φ v v' := by
  unfold resultOf at h
  have key : ∀ l, resAll P s fn.results.toList = some l → ∃ l', (results fn a.tmps).run P w = .ok (if h : l'.toArray.size = 1 then l'.toArray[0] else .tuple l'.toArray) w ∧ LRel φ l l' := by
    intro l hl
    obtain ⟨l', e, r⟩ := resAll_sound hs hl
    refine ⟨l', ?_, r⟩
    rw [results_eq, Array.mapM_eq_mapM_toList]
    simp only [Sem.run_bind, Sem.run_map, e, Result.andThen_ok, Sem.run_pure]
  split at h
  · rename_i u hu
    injection h with h
    subst h
    obtain ⟨l', e, r⟩ := key _ hu
    obtain ⟨v', r', rfl, hv, hr2⟩ := r.of_uncons
    obtain rfl := hr2.of_nil
    exact ⟨v', by simpa using e, hv⟩
  · rename_i l hne hl
    injection h with h
    subst h
    obtain ⟨l', e, r⟩ := key _ hl
    have hlen : ¬ l'.length = 1 := by
      rw [← r.1]
      intro h1
      rcases l with _ | ⟨x, _ | ⟨y, l⟩⟩
      · simp at h1
      · exact hne x rfl
      · simp at h1
    refine ⟨.tuple l'.toArray, by simpa [hlen] using e, ?_⟩
    exact r.tuple
  · cases h

theorem enter_rel {φ : Phi} {base : Nat} {Ω : Om} {w : World} (hr : HRel φ base Ω w) {args args' : List Value} (hl : LRel φ args args') {n : Nat} (hlen : args.length ≤ n) (hmost : n < Tr.most) :
    StRel [] φ base n ⟨argsT .nil 0 args, Ω⟩ { tmps := args'.toArray ++ Array.replicate (n - args'.toArray.size) undef, defers := [] } w := by
  refine ⟨⟨by have := hl.1; simp; omega, fun t => ?_⟩, rfl, hr⟩
  rw [argsT_get args .nil 0 t (by omega)]
  have hlen' : args'.length = args.length := hl.1.symm
  by_cases ht : t < args.length
  · rw [if_pos (by omega)]
    have h2 := hl.2 t ht (by omega)
    have e1 : args.getD (t - 0) undef = args[t] := by simp [List.getD_eq_getElem?_getD, ht]
    have e2 : (args'.toArray ++ Array.replicate (n - args'.toArray.size) undef).getD t undef = args'[t]'(by omega) := by
      rw [Array.getD_eq_getD_getElem?, Array.getElem?_append_left (by simp; omega)]
      simp [show t < args'.length by omega]
    rw [e1, e2]; exact h2
  · rw [if_neg (by omega)]
    have e1 : evT (.nil : Tr Value) t = undef := by simp [evT, Tr.get_nil]
    have e2 : (args'.toArray ++ Array.replicate (n - args'.toArray.size) undef).getD t undef = undef := by
      rw [Array.getD_eq_getD_getElem?, Array.getElem?_append_right (by simp; omega)]
      simp only [Array.getElem?_replicate]
      split <;> rfl
    rw [e1, e2]; exact VRel.undef φ

theorem evCall_ok {P : Program} (hP : NoCount P) {ora : Ora} (ho : OraOk P ora) {drawF : CallF → Nat → DrawF} (hd : ∀ call n, CallOk P call → DrawOk P (drawF call n) n) (fuel : Nat) : ∀ d, CallGOk P (evCall P ora drawF fuel d) := by
  intro d
  induction d with
  | zero => intro f args Ω v Ω' h; simp [evCall] at h
  | succ d ih =>
    intro f args Ω v Ω' h φ base w args' hr hl
    simp only [evCall] at h
    split at h
    · rename_i g hg
      exact ho _ ih f g hg args Ω v Ω' h φ base w args' hr hl
    · split at h
      · rename_i fn hfn
        split at h
        · rename_i c hbody
          split at h
          · rename_i hlen
            split at h
            · rename_i hmost
              refine calls_of_wp hfn hbody ?_
              have hs0 := enter_rel hr hl hlen hmost
              unfold endOf at h
              have fin : ∀ {s : St} {vv : Value} {e : Exit}, (e = .normal ∨ e = .ret) → resultOf P s fn.results.toList = some vv → ∀ φ' a' w', StRel [] φ' base fn.ntmps s a' w' → Stp φ Ω w φ' s.Ω w' → bodyPost P fn (RPost φ base Ω w (.ret vv) s.Ω) e a' w' := by
                intro s vv e he hres φ' a' w' hs' st
                obtain ⟨v', e, hv⟩ := results_sound hs' hres
                rcases he with rfl | rfl
                · exact ⟨hs'.defers, v', e, φ', v', rfl, hv, hs'.heap, st⟩
                · exact ⟨hs'.defers, v', e, φ', v', rfl, hv, hs'.heap, st⟩
              split at h
              · rename_i s hcode
                simp only [Option.map_eq_some_iff] at h
                obtain ⟨vv, hres, h⟩ := h
                injection h with h1 h2
                subst h1 h2
                exact (evCode_wp hP ih (hd _ _ ih.only) fuel).1 c hcode hs0 (fun φ' a' w' e hs' st hx => fin (.inl hx) hres φ' a' w' hs' st)
              · rename_i s hcode
                simp only [Option.map_eq_some_iff] at h
                obtain ⟨vv, hres, h⟩ := h
                injection h with h1 h2
                subst h1 h2
                exact (evCode_wp hP ih (hd _ _ ih.only) fuel).1 c hcode hs0 (fun φ' a' w' e hs' st hx => fin (.inr hx) hres φ' a' w' hs' st)
              · rename_i vv s hcode
                injection h with h
                injection h with h1 h2
                subst h1 h2
                refine (evCode_wp hP ih (hd _ _ ih.only) fuel).1 c hcode hs0 (fun φ' a' w' e hs' st hx => ?_)
                obtain ⟨v', rfl, hv⟩ := hx
                exact ⟨hs'.defers, φ', v', rfl, hv, hs'.heap, st⟩
              · cases h
            · cases h
          · cases h
        · cases h
      · cases h

end Go.Ev
