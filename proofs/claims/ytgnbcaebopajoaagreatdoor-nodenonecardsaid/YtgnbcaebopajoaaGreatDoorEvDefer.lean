/- Functions that defer one call: the evaluator, and that the model does the same. -/
import Derived.Test.YtgnbcaebopajoaaGreatDoorEvRun
import Derived.Recover
namespace Go.Ev
open Go.RowKit

/-- A call that waits. -/
abbrev Dfr := FuncId × List Value

/-- An abstract call that waits and the model's. -/
def DRel (P : Program) (φ : Phi) (d : Dfr) (D : Deferred) : Prop :=
  ∃ fv cap args', D.target = .fn fv cap ∧ (∀ w, (invoke D.target D.args).run P w = .ok (.enter d.1 args') w) ∧ LRel φ d.2 args'.toList

def deferOf (P : Program) (T : Tr Value) (Ω : Om) (c : Call) : Option Dfr :=
  match c.callee with
  | .value f =>
    match ev T Ω.gl f with
    | some (.func (.func g) first captured) =>
      match evs T Ω.gl c.args.toList with
      | some l =>
        match P.funcs[g]? with
        | some fn => match fn.body with
          | some _ => some (g, first.toList ++ l ++ captured.toList)
          | none => none
        | none => none
      | none => none
    | _ => none
  | _ => none

theorem deferOf_sound {P : Program} (hP : NoCount P) {φ : Phi} {base Ω w} (hr : HRel φ base Ω w) {T : Tr Value} {n : Nat} {a : Act} (ht : TRel φ T n a.tmps) {c : Call} {ty : TypeId} {d : Dfr} (h : deferOf P T Ω c = some d) :
    ∃ D, (resolve a.eval c ty).run P w = .ok D w ∧ DRel P φ d D := by
  unfold deferOf at h
  split at h
  · rename_i f hf
    split at h
    · rename_i g first captured hev
      have hfv := ev_sound hr ht hev
      obtain ⟨first', captured', he, h1, h2⟩ := LRel.of_func hfv
      split at h
      · rename_i l hl
        have hrel := evs_sound hr ht hl
        split at h
        · rename_i fn hfn
          split at h
          · rename_i body hbody
            injection h with h
            subst h
            have hn := hP g fn hfn
            have hn' : ¬ fn.name = "runtime.NumGoroutine" := by simpa using hn
            refine ⟨{ target := .fn (.func g) captured', args := first' ++ c.args.map a.eval }, ?_, .func g, captured', first' ++ c.args.map a.eval ++ captured', rfl, ?_, ?_⟩
            · simp [resolve, hf, Deferred.ofValue, he]
            · intro w
              simp [invoke, callFunc, hfn, hn', hbody]
            · simp only [Array.toList_append, Array.toList_map]
              exact (h1.append hrel).append h2
          · cases h
        · cases h
      · cases h
    · cases h
  · cases h

def lastDefer : List Oper → Option (List Oper × Oper × Call)
  | [] => none
  | [o] => match o.op, o.guard, o.dst with
    | .defer c, none, none => some ([], o, c)
    | _, _, _ => none
  | o :: r => match lastDefer r with
    | some (l, x, c) => some (o :: l, x, c)
    | none => none

theorem lastDefer_eq : ∀ {l l' : List Oper} {o : Oper} {c : Call}, lastDefer l = some (l', o, c) → l = l' ++ [o] ∧ o.op = .defer c ∧ o.guard = none ∧ o.dst = none
  | [], l', o, c, h => by simp [lastDefer] at h
  | [x], l', o, c, h => by
    simp only [lastDefer] at h
    split at h
    · rename_i c' h1 h2 h3
      simp only [Option.some.injEq, Prod.mk.injEq] at h
      obtain ⟨rfl, rfl, rfl⟩ := h
      exact ⟨rfl, h1, h2, h3⟩
    · cases h
  | x :: y :: r, l', o, c, h => by
    simp only [lastDefer] at h
    split at h
    · rename_i l2 x2 c2 h1
      simp only [Option.some.injEq, Prod.mk.injEq] at h
      obtain ⟨rfl, rfl, rfl⟩ := h
      obtain ⟨e, rest⟩ := lastDefer_eq (l := y :: r) (by simpa only [lastDefer] using h1)
      exact ⟨by rw [e]; rfl, rest⟩
    · cases h

/-- Code that may defer one call. -/
def evD (P : Program) (call : CallG) (draw : DrawF) (n fuel : Nat) : Nat → Code → St → Option (Ex × St × Option Dfr)
  | 0, _, _ => none
  | f + 1, c, s =>
    match c with
    | .seq a b =>
      match evD P call draw n fuel f a s with
      | some (.normal, s, none) => evD P call draw n fuel f b s
      | some (.normal, s, some d) => (evCode P call draw n fuel b s).map fun r => (r.1, r.2, some d)
      | r => r
    | .region id ops false =>
      match lastDefer ops.toList with
      | some (l, _, c) =>
        match evOps P call n ops l s with
        | some (.ok s) => (deferOf P s.T s.Ω c).map fun d => (.normal, s, some d)
        | _ => none
      | none => (evCode P call draw n fuel (.region id ops false) s).map fun r => (r.1, r.2, none)
    | c => (evCode P call draw n fuel c s).map fun r => (r.1, r.2, none)

def DsRel (P : Program) (φ : Phi) : Option Dfr → List Deferred → Prop
  | none, ds => ds = []
  | some d, ds => ∃ D, ds = [D] ∧ DRel P φ d D

theorem DRel.mono {P : Program} {φ φ' : Phi} (he : Ext φ φ') {d : Dfr} {D : Deferred} (h : DRel P φ d D) : DRel P φ' d D := by
  obtain ⟨fv, cap, args', h1, h2, h3⟩ := h
  exact ⟨fv, cap, args', h1, h2, h3.mono he⟩

theorem evD_wp {P : Program} (hP : NoCount P) {call : CallG} (hc : CallGOk P call) {draw : DrawF} {n : Nat} (hd : DrawOk P draw n) {fuel : Nat} : ∀ (f : Nat)
    (c : Code) {s s' : St} {x : Ex} {d : Option Dfr} {φ : Phi} {base : Nat} {a : Act} {w : World} {Q : Exit → Act → World → Prop}, evD P call draw n fuel f c s = some (x, s', d) → StRel [] φ base n s a w →
      (∀ φ' a' w' e ds, StRel ds φ' base n s' a' w' → DsRel P φ' d ds → Stp φ s.Ω w φ' s'.Ω w' → x.Is φ' e → Q e a' w') → c.wp P Q a w := by
  intro f
  induction f with
  | zero => intro c s s' x d φ base a w Q h; simp [evD] at h
  | succ f ih =>
    intro c s s' x d φ base a w Q h hs hq
    have plain : (evCode P call draw n fuel c s).map (fun r => (r.1, r.2, (none : Option Dfr))) = some (x, s', d) → c.wp P Q a w := by
      intro h
      simp only [Option.map_eq_some_iff] at h
      obtain ⟨⟨y, s2⟩, h1, h2⟩ := h
      injection h2 with e1 e2
      injection e2 with e2 e3
      subst e1 e2 e3
      exact (evCode_wp hP hc hd fuel).1 c h1 hs fun φ' a' w' e hs' st hx => hq φ' a' w' e [] hs' rfl st hx
    cases c with
    | seq c1 c2 =>
      simp only [evD] at h
      split at h
      · rename_i s1 h1
        refine wp_seq (ih c1 h1 hs fun φ' a' w' e ds hs' hds st hx => ?_)
        cases hx
        cases hds
        exact ih c2 h hs' fun φ'' a'' w'' e ds hs'' hds st' hx => hq φ'' a'' w'' e ds hs'' hds (st.trans st') hx
      · rename_i s1 d1 h1
        simp only [Option.map_eq_some_iff] at h
        obtain ⟨⟨y, s2⟩, h2, h3⟩ := h
        injection h3 with e1 e2
        injection e2 with e2 e3
        subst e1 e2 e3
        refine wp_seq (ih c1 h1 hs fun φ' a' w' e ds hs' hds st hx => ?_)
        cases hx
        obtain ⟨D, rfl, hD⟩ := hds
        exact (evCode_wp hP hc hd fuel).1 c2 h2 hs' fun φ'' a'' w'' e hs'' st' hx => hq φ'' a'' w'' e [D] hs'' ⟨D, rfl, hD.mono st'.ext⟩ (st.trans st') hx
      · rename_i r hr1 hr2
        have hx : x.goes = false := by
          cases x <;> first | rfl | (cases d with | none => exact absurd h (fun hh => hr1 _ hh) | some d => exact absurd h (fun hh => hr2 _ _ hh))
        exact wp_seq (ih c1 h hs fun φ' a' w' e ds hs' hds st he => he.pass hx (hq φ' a' w' e ds hs' hds st he))
    | region id ops dr =>
      cases dr with
      | true => simp only [evD] at h; exact plain h
      | false =>
        simp only [evD] at h
        split at h
        · rename_i l o c hl
          obtain ⟨hops, hop, hgd, hdst⟩ := lastDefer_eq hl
          split at h
          · rename_i s1 h1
            simp only [Option.map_eq_some_iff] at h
            obtain ⟨d', h2, h3⟩ := h
            injection h3 with e1 e2
            injection e2 with e2 e3
            subst e1 e2 e3
            refine region_wp ?_
            have hsz : ops.size = l.length + 1 := by rw [← Array.length_toList, hops]; simp
            have hget : ∀ i, ops[i]? = (l ++ [o])[i]? := fun i => by rw [← hops, Array.getElem?_toList]
            have key := evOps_wp hP hc (Q := Q) l 0 (rest := [l.length]) (fun i hi => by rw [Nat.zero_add, hget, List.getElem?_append_left hi]) h1 hs (by
              intro φ' a' w' hs' st
              have ho : ops[l.length]? = some o := by rw [hget]; simp
              simp only [wpOps, ho]
              have hw : Region.wanted o (yielded ops a'.tmps) = true := by unfold Region.wanted; rw [hgd]
              rw [if_pos hw]
              refine .inl ?_
              obtain ⟨D, hres, hD⟩ := deferOf_sound hP hs'.heap hs'.tmps (ty := o.type) h2
              unfold Oper.wp
              have hrun : (execOp a'.eval o).run P w' = .ok (.defer D) w' := by
                unfold execOp
                simp only [hop, Sem.run_bind, hres, Result.andThen_ok, Sem.run_pure]
              rw [hrun]
              simp only [Oper.upon, Act.put, hdst]
              exact hq φ' _ w' .normal [D] ⟨hs'.tmps, by rw [hs'.defers], hs'.heap⟩ ⟨D, rfl, hD⟩ st rfl)
            have er : List.range ops.size = List.range' 0 l.length ++ [l.length] := by rw [hsz, List.range_succ, List.range_eq_range']
            rw [er]
            exact key
          · cases h
        · exact plain h
    | _ => simp only [evD] at h; exact plain h

/-! ### The deferred call -/
/-- A region's operations from the second on, its frame's caller's panic taken or not. -/
def oneRecover : List Oper → Option (Oper × List Oper)
  | o :: r => match o.op, o.guard with
    | .call { callee := .builtin .recover, .. }, none => some (o, r)
    | _, _ => none
  | [] => none

theorem oneRecover_eq {l r : List Oper} {o : Oper} (h : oneRecover l = some (o, r)) : l = o :: r ∧ o.guard = none ∧ ∃ c, o.op = .call c ∧ c.callee = .builtin .recover := by
  unfold oneRecover at h
  split at h
  · split at h
    · rename_i h1 h2
      injection h with h
      injection h with e1 e2
      subst e1 e2
      exact ⟨rfl, h2, _, h1, rfl⟩
    · cases h
  · cases h

/-- The value that recover answers. -/
def taken : Option Value → Value
  | some v => v
  | none => .nilIface

/-- A deferred call whose first step recovers. -/
def evG (P : Program) (call : CallG) (drawF : CallF → Nat → DrawF) (fuel : Nat) (pan : Option Value) (d : Dfr) (Ω : Om) : Option Om :=
  match P.funcs[d.1]? with
  | some fn =>
    match fn.body with
    | some (.seq (.region _ ops false) rest) =>
      if d.2.length ≤ fn.ntmps then
        if fn.ntmps < Tr.most then
          match oneRecover ops.toList with
          | some (o, r) =>
            match putT (argsT .nil 0 d.2) fn.ntmps o.dst (taken pan) with
            | some T =>
              match evOps P call fn.ntmps ops r ⟨T, Ω⟩ with
              | some (.ok s) =>
                match endOf P fn (evCode P call (drawF call.only fn.ntmps) fn.ntmps fuel rest s) with
                | some (.ret _, Ω') => some Ω'
                | _ => none
              | _ => none
            | none => none
          | none => none
        else none
      else none
    | _ => none
  | none => none

/-- What the frame below is about, before and after. -/
def modeOf : Option Value → FrameMode
  | some v => .panicking [{ v, recovered := false }]
  | none => .returning
def modeAfter : Option Value → FrameMode
  | some v => .panicking [{ v, recovered := true }]
  | none => .returning

def PanRel (φ : Phi) : Option Value → Option Value → Prop
  | some v, some v' => VRel φ v v'
  | none, none => True
  | _, _ => False

theorem evOps_wpS {P : Program} (hP : NoCount P) {call : CallG} (hc : CallGOk P call) {n : Nat} {ops : Array Oper} {base : Nat} {ds : List Deferred} {cs : List Frame} {Q : Exit → Act → List Frame → World → Prop} : ∀ (l : List Oper) (k : Nat) {s s' : St} {φ : Phi} {a : Act} {w : World},
    (∀ i, i < l.length → ops[k + i]? = l[i]?) → evOps P call n ops l s = some (.ok s') → StRel ds φ base n s a w →
    (∀ φ' a' w', StRel ds φ' base n s' a' w' → Stp φ s.Ω w φ' s'.Ω w' → Q .normal a' cs w') → wpOpsS P ops Q (List.range' k l.length) a cs w := by
  intro l
  induction l with
  | nil =>
    intro k s s' φ a w _ h hs hq
    injection h with h
    injection h with h
    subst h
    exact hq φ a w hs (Stp.refl _ _ _)
  | cons o r ih =>
    intro k s s' φ a w hl h hs hq
    have ho : ops[k]? = some o := by have := hl 0 (by simp); simpa using this
    simp only [evOps] at h
    simp only [List.length_cons, List.range'_succ, wpOpsS, ho]
    rw [wanted_eq hs.tmps ops o]
    split at h
    · rename_i s1 h1
      have key := evOp_wp hP hc h1 hs (next := fun a' w' => wpOpsS P ops Q (List.range' (k + 1) r.length) a' cs w') (Q := fun e a' w' => Q e a' cs w')
        (fun φ' a' w' hs' st => ih (k + 1) (fun i hi => by have := hl (i + 1) (by simpa using hi); simpa [Nat.add_assoc, Nat.add_comm, Nat.add_left_comm] using this) h hs' (fun φ'' a'' w'' hs'' st' => hq φ'' a'' w'' hs'' (st.trans st')))
      split
      · rename_i hw
        have k1 := key.1 hw
        unfold Oper.wp at k1
        split
        · rename_i w' hrun
          rw [hrun] at k1
          exact k1.elim
        · exact k1
      · rename_i hw; exact key.2 (by simpa using hw)
    · rename_i x hx
      exact absurd h (hx s')

theorem recoverD_mode {pan' : Option Value} {c₀ : Frame} {cs : List Frame} (h : c₀.mode = modeOf pan') :
    (∃ v, pan' = some v ∧ recoverD (c₀ :: cs) = some (v, { c₀ with mode := modeAfter pan' } :: cs)) ∨ (pan' = none ∧ recoverD (c₀ :: cs) = none) := by
  cases pan' with
  | some v => exact .inl ⟨v, rfl, by simp [recoverD, h, modeOf, modeAfter]⟩
  | none => exact .inr ⟨rfl, by simp [recoverD, h, modeOf]⟩

theorem evG_ok {P : Program} (hP : NoCount P) {call : CallG} (hc : CallGOk P call) {drawF : CallF → Nat → DrawF} (hd : ∀ call n, CallOk P call → DrawOk P (drawF call n) n) {fuel : Nat} {pan pan' : Option Value} {d : Dfr} {Ω Ω' : Om} (h : evG P call drawF fuel pan d Ω = some Ω')
    {φ : Phi} {base : Nat} {w : World} (hr : HRel φ base Ω w) {args' : List Value} (hl : LRel φ d.2 args') (hp : PanRel φ pan pan') :
    CallsD P d.1 args'.toArray (modeOf pan') w fun e u' w' => (∃ v, e = .returned v) ∧ u' = modeAfter pan' ∧ ∃ φ', HRel φ' base Ω' w' ∧ Stp φ Ω w φ' Ω' w' := by
  unfold evG at h
  split at h
  · rename_i fn hfn
    split at h
    · rename_i id ops rest hbody
      split at h
      · rename_i hlen
        split at h
        · rename_i hmost
          split at h
          · rename_i o r hone
            split at h
            · rename_i T hT
              split at h
              · rename_i s1 hops
                split at h
                · rename_i vv Ω2 hend
                  injection h with h
                  subst h
                  obtain ⟨hol, hgd, c, hop, hcal⟩ := oneRecover_eq hone
                  have hget : ∀ i, ops[i]? = (o :: r)[i]? := fun i => by rw [← hol, Array.getElem?_toList]
                  have hsz : ops.size = r.length + 1 := by rw [← Array.length_toList, hol]; simp
                  refine callsD_of_wpS hfn hbody fun c₀ cs hu => ?_
                  have hs0 := enter_rel hr hl hlen hmost
                  generalize ha : ({ tmps := args'.toArray ++ Array.replicate (fn.ntmps - args'.toArray.size) undef, defers := [] } : Act) = a at hs0 ⊢
                  refine wpS_seq (wpS_region ?_)
                  have er : List.range ops.size = 0 :: List.range' 1 r.length := by rw [hsz, List.range_eq_range', List.range'_succ]
                  rw [er]
                  have ho0 : ops[0]? = some o := by rw [hget]; rfl
                  simp only [wpOpsS, ho0]
                  have hw : Region.wanted o (yielded ops a.tmps) = true := by unfold Region.wanted; rw [hgd]
                  rw [if_pos hw]
                  have hrun : (execOp a.eval o).run P w = .ok .recover w := by
                    unfold execOp
                    simp [hop, resolve, hcal, invoke, builtin]
                  rw [hrun]
                  simp only
                  -- what follows, the slot being put
                  have go : ∀ (v' : Value) (u' : FrameMode), VRel φ (taken pan) v' → u' = modeAfter pan' →
                      wpOpsS P ops (Exit.thenS (rest.wpS P (bodyPostS P fn c₀ cs fun e u' w' => (∃ v, e = .returned v) ∧ u' = modeAfter pan' ∧ ∃ φ', HRel φ' base Ω2 w' ∧ Stp φ Ω w φ' Ω2 w'))
                        (bodyPostS P fn c₀ cs fun e u' w' => (∃ v, e = .returned v) ∧ u' = modeAfter pan' ∧ ∃ φ', HRel φ' base Ω2 w' ∧ Stp φ Ω w φ' Ω2 w')) (List.range' 1 r.length) (a.put o.dst v') ({ c₀ with mode := u' } :: cs) w := by
                    intro v' u' hv hu'
                    have hs1 : StRel [] φ base fn.ntmps ⟨T, Ω⟩ (a.put o.dst v') w := ⟨hs0.tmps.put hv hT, by rw [put_defers]; exact hs0.defers, hs0.heap⟩
                    refine evOps_wpS hP hc r 1 (fun i hi => by rw [hget, Nat.add_comm]; simp) hops hs1 fun φ1 a1 w1 hs1' st1 => ?_
                    refine wpS_of_wp ?_
                    unfold endOf at hend
                    have fin : ∀ {s2 : St} {e : Exit}, (e = .normal ∨ e = .ret) → (resultOf P s2 fn.results.toList).map (fun v => (Res.ret v, s2.Ω)) = some (.ret vv, Ω2) → ∀ φ' a' w', StRel [] φ' base fn.ntmps s2 a' w' → Stp φ1 s1.Ω w1 φ' s2.Ω w' →
                        bodyPostS P fn c₀ cs (fun e u' w' => (∃ v, e = .returned v) ∧ u' = modeAfter pan' ∧ ∃ φ', HRel φ' base Ω2 w' ∧ Stp φ Ω w φ' Ω2 w') e a' ({ c₀ with mode := u' } :: cs) w' := by
                      intro s2 e he hres φ' a' w' hs2 st2
                      simp only [Option.map_eq_some_iff] at hres
                      obtain ⟨v2, hres, e1⟩ := hres
                      injection e1 with e1 e2
                      subst e2
                      obtain ⟨v', hv1, hv2⟩ := results_sound hs2 hres
                      rcases he with rfl | rfl
                      · exact ⟨hs2.defers, u', rfl, v', hv1, ⟨v', rfl⟩, hu', φ', hs2.heap, st1.trans st2⟩
                      · exact ⟨hs2.defers, u', rfl, v', hv1, ⟨v', rfl⟩, hu', φ', hs2.heap, st1.trans st2⟩
                    split at hend
                    · rename_i s2 hcode
                      exact (evCode_wp hP hc (hd _ _ hc.only) fuel).1 rest hcode hs1' fun φ' a' w' e hs2 st2 hx => fin (.inl hx) hend φ' a' w' hs2 st2
                    · rename_i s2 hcode
                      exact (evCode_wp hP hc (hd _ _ hc.only) fuel).1 rest hcode hs1' fun φ' a' w' e hs2 st2 hx => fin (.inr hx) hend φ' a' w' hs2 st2
                    · cases hend
                    · cases hend
                  rcases recoverD_mode (cs := cs) hu with ⟨v, rfl, hrec⟩ | ⟨rfl, hrec⟩
                  · rw [hrec]
                    cases pan with
                    | none => exact hp.elim
                    | some v0 => exact go v _ hp rfl
                  · rw [hrec]
                    cases pan with
                    | some v0 => exact hp.elim
                    | none =>
                      have := go .nilIface c₀.mode .nilIface hu
                      simpa using this
                · cases h
              · cases h
            · cases h
          · cases h
        · cases h
      · cases h
    · cases h
  · cases h

/-- A call of a function that may defer one call, which recovers. -/
def evDefer (P : Program) (call : CallG) (drawF : CallF → Nat → DrawF) (fuel : Nat) (f : FuncId) (args : List Value) (Ω : Om) : Option (Res × Om) :=
  match P.funcs[f]? with
  | some fn =>
    match fn.body with
    | some c =>
      if args.length ≤ fn.ntmps then
        if fn.ntmps < Tr.most then
          match evD P call (drawF call.only fn.ntmps) fn.ntmps fuel fuel c ⟨argsT .nil 0 args, Ω⟩ with
          | some (x, s, none) => endOf P fn (some (x, s))
          | some (.pan v, s, some d) =>
            match evG P call drawF fuel (some v) d s.Ω with
            | some Ω' => endOf P fn (some (.ret, ⟨s.T, Ω'⟩))
            | none => none
          | some (.normal, s, some d) =>
            match evG P call drawF fuel none d s.Ω with
            | some Ω' => endOf P fn (some (.ret, ⟨s.T, Ω'⟩))
            | none => none
          | some (.ret, s, some d) =>
            match evG P call drawF fuel none d s.Ω with
            | some Ω' => endOf P fn (some (.ret, ⟨s.T, Ω'⟩))
            | none => none
          | _ => none
        else none
      else none
    | none => none
  | none => none

theorem leaves_one {P : Program} {fn : Func} {n : Nat} {tmps : Array Value} {d : Dfr} {D : Deferred} {pan' : Option Value} {Ω Ω1 Ω2 : Om} {w w1 : World} {φ φ1 : Phi} {base : Nat} {T : Tr Value} {r : Res} {Ω' : Om}
    (hD : DRel P φ1 d D) (st : Stp φ Ω w φ1 Ω1 w1) (ht : TRel φ1 T n tmps) (hend : endOf P fn (some (.ret, ⟨T, Ω2⟩)) = some (r, Ω'))
    (h : ∀ args' : List Value, LRel φ1 d.2 args' → CallsD P d.1 args'.toArray (modeOf pan') w1 fun e u' w' => (∃ v, e = .returned v) ∧ u' = modeAfter pan' ∧ ∃ φ', HRel φ' base Ω2 w' ∧ Stp φ1 Ω1 w1 φ' Ω2 w') :
    Leaves P fn tmps (RPost φ base Ω w r Ω') [D] (modeOf pan') w1 := by
  obtain ⟨fv, cap, args', h1, h2, h3⟩ := hD
  refine ⟨by cases pan' <;> simp [modeOf], fv, cap, d.1, args', h1, h2 w1, ?_⟩
  refine CallsD.mono (by simpa using h args'.toList h3) ?_
  rintro e u' w' ⟨⟨v, rfl⟩, rfl, φ', hr, st2⟩
  have hset : settle (modeAfter pan') = .returning := by cases pan' <;> rfl
  simp only [hset, Leaves]
  simp only [endOf, Option.map_eq_some_iff] at hend
  obtain ⟨vv, hres, e1⟩ := hend
  injection e1 with e1 e2
  subst e1 e2
  have hs : StRel [] φ' base n ⟨T, Ω2⟩ { tmps, defers := [] } w' := ⟨ht.mono st2.ext, rfl, hr⟩
  obtain ⟨v', k1, k2⟩ := results_sound hs hres
  exact ⟨v', k1, φ', v', rfl, k2, hr, st.trans st2⟩

theorem evDefer_ok {P : Program} (hP : NoCount P) {call : CallG} (hc : CallGOk P call) {drawF : CallF → Nat → DrawF} (hd : ∀ call n, CallOk P call → DrawOk P (drawF call n) n) {fuel : Nat} {f : FuncId} {args : List Value} {Ω Ω' : Om} {r : Res} (h : evDefer P call drawF fuel f args Ω = some (r, Ω'))
    {φ : Phi} {base : Nat} {w : World} {args' : List Value} (hr : HRel φ base Ω w) (hl : LRel φ args args') : Calls P f args'.toArray w (RPost φ base Ω w r Ω') := by
  unfold evDefer at h
  split at h
  · rename_i fn hfn
    split at h
    · rename_i c hbody
      split at h
      · rename_i hlen
        split at h
        · rename_i hmost
          refine calls_of_wp_defers hfn hbody ?_
          have hs0 := enter_rel hr hl hlen hmost
          split at h
          · -- nothing waits
            rename_i x s hcode
            refine evD_wp hP hc (hd _ _ hc.only) fuel c hcode hs0 fun φ' a' w' e ds hs' hds st hx => ?_
            cases hds
            have fin : ∀ {vv : Value} {e : Exit}, (e = .normal ∨ e = .ret) → resultOf P s fn.results.toList = some vv → bodyPostD P fn (RPost φ base Ω w (.ret vv) s.Ω) e a' w' := by
              intro vv e he hres
              obtain ⟨v', e1, hv⟩ := results_sound hs' hres
              rcases he with rfl | rfl
              · simp only [bodyPostD, hs'.defers, Leaves]; exact ⟨v', e1, φ', v', rfl, hv, hs'.heap, st⟩
              · simp only [bodyPostD, hs'.defers, Leaves]; exact ⟨v', e1, φ', v', rfl, hv, hs'.heap, st⟩
            unfold endOf at h
            split at h
            · rename_i s2 hc2
              injection hc2 with hc2
              injection hc2 with e1 e2
              subst e1 e2
              simp only [Option.map_eq_some_iff] at h
              obtain ⟨vv, hres, h⟩ := h
              injection h with h1 h2
              subst h1 h2
              exact fin (.inl hx) hres
            · rename_i s2 hc2
              injection hc2 with hc2
              injection hc2 with e1 e2
              subst e1 e2
              simp only [Option.map_eq_some_iff] at h
              obtain ⟨vv, hres, h⟩ := h
              injection h with h1 h2
              subst h1 h2
              exact fin (.inr hx) hres
            · rename_i vv s2 hc2
              injection hc2 with hc2
              injection hc2 with e1 e2
              subst e1 e2
              injection h with h
              injection h with h1 h2
              subst h1 h2
              obtain ⟨v', rfl, hv⟩ := hx
              simp only [bodyPostD, hs'.defers, Leaves]
              exact ⟨φ', v', rfl, hv, hs'.heap, st⟩
            · cases h
          · rename_i v s d hcode
            split at h
            · rename_i Ω2 hg
              refine evD_wp hP hc (hd _ _ hc.only) fuel c hcode hs0 fun φ' a' w' e ds hs' hds st hx => ?_
              obtain ⟨D, rfl, hD⟩ := hds
              obtain ⟨v', rfl, hv⟩ := hx
              simp only [bodyPostD, hs'.defers]
              exact leaves_one (pan' := some v') (n := fn.ntmps) hD st hs'.tmps h fun args' hl' => evG_ok hP hc hd hg hs'.heap hl' hv
            · cases h
          · rename_i s d hcode
            split at h
            · rename_i Ω2 hg
              refine evD_wp hP hc (hd _ _ hc.only) fuel c hcode hs0 fun φ' a' w' e ds hs' hds st hx => ?_
              obtain ⟨D, rfl, hD⟩ := hds
              cases hx
              simp only [bodyPostD, hs'.defers]
              exact leaves_one (pan' := none) (n := fn.ntmps) hD st hs'.tmps h fun args' hl' => evG_ok hP hc hd hg hs'.heap hl' trivial
            · cases h
          · rename_i s d hcode
            split at h
            · rename_i Ω2 hg
              refine evD_wp hP hc (hd _ _ hc.only) fuel c hcode hs0 fun φ' a' w' e ds hs' hds st hx => ?_
              obtain ⟨D, rfl, hD⟩ := hds
              cases hx
              simp only [bodyPostD, hs'.defers]
              exact leaves_one (pan' := none) (n := fn.ntmps) hD st hs'.tmps h fun args' hl' => evG_ok hP hc hd hg hs'.heap hl' trivial
            · cases h
          · cases h
        · cases h
      · cases h
    · cases h
  · cases h

end Go.Ev
