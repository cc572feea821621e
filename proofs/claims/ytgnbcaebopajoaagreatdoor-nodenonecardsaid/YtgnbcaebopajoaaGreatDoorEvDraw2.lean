/- Regions that draw their order: the trace in the text's order, and what is asked of it. -/
import Derived.Test.YtgnbcaebopajoaaGreatDoorEvDraw
namespace Go.Ev
open Go.RowKit

def predsOf (o : Oper) : List Nat := (o.after.toList.filter (Region.binds .any)).map (·.on)
def maskOf (o : Oper) (acc : List Nat) : Nat := (predsOf o).foldl (fun s j => s ||| 2 ^ j ||| acc.getD j 0) 0

inductive Reach (ops : Array Oper) : Nat → Nat → Prop
  | direct {i j : Nat} {o : Oper} (ho : ops[i]? = some o) (hj : j ∈ predsOf o) : Reach ops i j
  | trans {i k j : Nat} {o : Oper} (ho : ops[i]? = some o) (hk : k ∈ predsOf o) (h : Reach ops k j) : Reach ops i j

theorem mask_fold {ops : Array Oper} {i : Nat} {o : Oper} {acc : List Nat} (ho : ops[i]? = some o) (hacc : ∀ k j, (acc.getD k 0).testBit j = true → Reach ops k j) :
    ∀ (l : List Nat) (s : Nat), (∀ x ∈ l, x ∈ predsOf o) → (∀ j, s.testBit j = true → Reach ops i j) → ∀ j, (l.foldl (fun s j => s ||| 2 ^ j ||| acc.getD j 0) s).testBit j = true → Reach ops i j := by
  intro l
  induction l with
  | nil => intro s _ hs j h; exact hs j h
  | cons x r ih =>
    intro s hl hs j h
    refine ih _ (fun y hy => hl y (by simp [hy])) ?_ j h
    intro j hj
    rw [Nat.testBit_or, Nat.testBit_or, Nat.testBit_two_pow, Bool.or_eq_true, Bool.or_eq_true] at hj
    rcases hj with (hj | hj) | hj
    · exact hs j hj
    · have : x = j := by simpa using hj
      subst this
      exact .direct ho (hl x (by simp))
    · exact .trans ho (hl x (by simp)) (hacc x j hj)

structure Rec where
  o : Oper
  i : Nat
  rd : List Nat
  mask : Nat
  w : Bool
  kd : Kd
  R : Tr Value
  r : Value
  Ω : Om
  Ω' : Om

def allocAt (P : Program) (Ω : Om) (t : TypeId) (b : Nat) : Option (Value × Om) :=
  match P.info? t with
  | some i =>
    match i.zero with
    | some z => let l := z.cells.toList; if lits l then some (.pointer (some ⟨b, 0, none⟩), { Ω with h := Ω.h.set b (some (.row t l false none)) }) else none
    | none => none
  | none => none

def recOf (P : Program) (call : CallF) (ops : Array Oper) (b0 i : Nat) (o : Oper) (m : Nat) (T : Tr Value) (Ω : Om) : Option Rec :=
  let rd := o.looksAt ops
  let R := onlyT T rd
  match wantedA ops R o with
  | false => some ⟨o, i, rd, m, false, .still, R, undef, Ω, Ω⟩
  | true =>
    match o.op with
    | .alloc t => (allocAt P Ω t (b0 + i)).map fun x => ⟨o, i, rd, m, true, .alloc, R, x.1, Ω, x.2⟩
    | _ =>
      match stillOp P R Ω o with
      | some v => some ⟨o, i, rd, m, true, .still, R, v, Ω, Ω⟩
      | none =>
        match aop P R Ω o with
        | some (.val v Ω') => some ⟨o, i, rd, m, true, .loud, R, v, Ω, Ω'⟩
        | some (.call f args) => (call f args Ω).map fun x => ⟨o, i, rd, m, true, .loud, R, x.1, Ω, x.2⟩
        | _ => none

def evTr (P : Program) (call : CallF) (n : Nat) (ops : Array Oper) (b0 : Nat) : List Oper → Nat → List Nat → Tr Value → Om → Option (List Rec × Tr Value × Om)
  | [], _, _, T, Ω => some ([], T, Ω)
  | o :: r, i, acc, T, Ω =>
    match recOf P call ops b0 i o (maskOf o acc) T Ω with
    | some rc =>
      match putT T n o.dst rc.r with
      | some T' =>
        match evTr P call n ops b0 r (i + 1) (acc ++ [maskOf o acc]) T' rc.Ω' with
        | some x => some (rc :: x.1, x.2)
        | none => none
      | none => none
    | none => none

structure Trace (P : Program) (call : CallF) (n : Nat) (ops : Array Oper) (b0 : Nat) (Tt : Nat → Tr Value) (Ot : Nat → Om) (rc : Nat → Rec) (l : List Oper) (k : Nat) : Prop where
  get : ∀ j (h : j < l.length), recOf P call ops b0 (k + j) l[j] (rc (k + j)).mask (Tt (k + j)) (Ot (k + j)) = some (rc (k + j))
  put : ∀ j (h : j < l.length), putT (Tt (k + j)) n (l[j]).dst (rc (k + j)).r = some (Tt (k + j + 1))
  om : ∀ j (_ : j < l.length), (rc (k + j)).Ω' = Ot (k + j + 1)
  reach : ∀ j (_ : j < l.length) x, (rc (k + j)).mask.testBit x = true → Reach ops (k + j) x

theorem recOf_mask {P : Program} {call : CallF} {ops : Array Oper} {b0 i : Nat} {o : Oper} {m : Nat} {T : Tr Value} {Ω : Om} {rc : Rec} (h : recOf P call ops b0 i o m T Ω = some rc) :
    rc.mask = m ∧ rc.o = o ∧ rc.i = i ∧ rc.rd = o.looksAt ops ∧ rc.R = onlyT T (o.looksAt ops) ∧ rc.Ω = Ω := by
  unfold recOf at h
  dsimp only at h
  split at h
  · injection h with h; subst h; exact ⟨rfl, rfl, rfl, rfl, rfl, rfl⟩
  · split at h
    · simp only [Option.map_eq_some_iff] at h
      obtain ⟨x, _, rfl⟩ := h
      exact ⟨rfl, rfl, rfl, rfl, rfl, rfl⟩
    · split at h
      · injection h with h; subst h; exact ⟨rfl, rfl, rfl, rfl, rfl, rfl⟩
      · split at h
        · injection h with h; subst h; exact ⟨rfl, rfl, rfl, rfl, rfl, rfl⟩
        · simp only [Option.map_eq_some_iff] at h
          obtain ⟨x, _, rfl⟩ := h
          exact ⟨rfl, rfl, rfl, rfl, rfl, rfl⟩
        · cases h

theorem evTr_trace {P : Program} {call : CallF} {n : Nat} {ops : Array Oper} {b0 : Nat} (dummy : Rec) : ∀ (l : List Oper) (k : Nat) (acc : List Nat) (T : Tr Value) (Ω : Om) (recs : List Rec) (Tf : Tr Value) (Ωf : Om),
    (∀ j (h : j < l.length), ops[k + j]? = some l[j]) → acc.length = k → (∀ x j, (acc.getD x 0).testBit j = true → Reach ops x j) → evTr P call n ops b0 l k acc T Ω = some (recs, Tf, Ωf) →
    ∃ (Tt : Nat → Tr Value) (Ot : Nat → Om), Tt k = T ∧ Ot k = Ω ∧ Tt (k + l.length) = Tf ∧ Ot (k + l.length) = Ωf ∧ recs.length = l.length ∧
      Trace P call n ops b0 Tt Ot (fun i => recs.getD (i - k) dummy) l k := by
  intro l
  induction l with
  | nil =>
    intro k acc T Ω recs Tf Ωf _ _ _ h
    simp only [evTr, Option.some.injEq, Prod.mk.injEq] at h
    obtain ⟨rfl, rfl, rfl⟩ := h
    exact ⟨fun _ => T, fun _ => Ω, rfl, rfl, rfl, rfl, rfl, ⟨fun j h => absurd h (by simp), fun j h => absurd h (by simp), fun j h => absurd h (by simp), fun j h => absurd h (by simp)⟩⟩
  | cons o r ih =>
    intro k acc T Ω recs Tf Ωf hl hk hacc h
    simp only [evTr] at h
    split at h
    · rename_i rc hrc
      split at h
      · rename_i T' hT'
        split at h
        · rename_i x hx
          obtain ⟨recs', Tf', Ωf'⟩ := x
          simp only [Option.some.injEq, Prod.mk.injEq] at h
          obtain ⟨rfl, rfl, rfl⟩ := h
          have ho : ops[k]? = some o := by have := hl 0 (by simp); simpa using this
          have hm := mask_fold (acc := acc) ho hacc (predsOf o) 0 (fun x hx => hx) (fun j hj => by simp at hj)
          have hacc' : ∀ x j, ((acc ++ [maskOf o acc]).getD x 0).testBit j = true → Reach ops x j := by
            intro x j hj
            rw [List.getD_eq_getElem?_getD] at hj
            by_cases hx : x < acc.length
            · rw [List.getElem?_append_left hx, ← List.getD_eq_getElem?_getD] at hj
              exact hacc x j hj
            · rw [List.getElem?_append_right (by omega)] at hj
              by_cases hx2 : x = acc.length
              · subst hx2
                simp at hj
                rw [hk]
                exact hm j hj
              · have : x - acc.length = (x - acc.length - 1) + 1 := by omega
                rw [this] at hj
                simp at hj
          obtain ⟨Tt, Ot, e1, e2, e3, e4, e5, tr⟩ := ih (k + 1) (acc ++ [maskOf o acc]) T' rc.Ω' recs' Tf' Ωf'
            (fun j hj => by have := hl (j + 1) (by simpa using hj); simpa [Nat.add_assoc, Nat.add_comm, Nat.add_left_comm] using this) (by simp [hk]) hacc' hx
          refine ⟨fun i => if i = k then T else Tt i, fun i => if i = k then Ω else Ot i, by simp, by simp, ?_, ?_, by simp [e5], ?_⟩
          · have : k + (o :: r).length = k + 1 + r.length := by simp; omega
            rw [this, ← e3]; exact if_neg (by omega)
          · have : k + (o :: r).length = k + 1 + r.length := by simp; omega
            rw [this, ← e4]; exact if_neg (by omega)
          · have hshift : ∀ j, (rc :: recs').getD (k + (j + 1) - k) dummy = recs'.getD (k + 1 + j - (k + 1)) dummy := by
              intro j
              have a1 : k + (j + 1) - k = j + 1 := by omega
              have a2 : k + 1 + j - (k + 1) = j := by omega
              rw [a1, a2]; simp [List.getD_eq_getElem?_getD]
            have h0 : (rc :: recs').getD (k + 0 - k) dummy = rc := by simp [List.getD_eq_getElem?_getD]
            refine ⟨?_, ?_, ?_, ?_⟩
            · intro j hj
              cases j with
              | zero =>
                rw [h0]
                simp only [List.getElem_cons_zero, Nat.add_zero, if_true]
                rw [(recOf_mask hrc).1]; exact hrc
              | succ j =>
                rw [hshift]
                have := tr.get j (by simpa using hj)
                have a1 : k + (j + 1) = k + 1 + j := by omega
                rw [a1, if_neg (by omega), if_neg (by omega)]
                simpa using this
            · intro j hj
              cases j with
              | zero =>
                rw [h0]
                simp only [List.getElem_cons_zero, Nat.add_zero, if_true]
                rw [if_neg (by omega), e1]; exact hT'
              | succ j =>
                rw [hshift]
                have := tr.put j (by simpa using hj)
                have a1 : k + (j + 1) = k + 1 + j := by omega
                rw [a1, if_neg (by omega), if_neg (by omega)]
                simpa using this
            · intro j hj
              cases j with
              | zero =>
                rw [h0, if_neg (by omega)]
                exact e2.symm
              | succ j =>
                rw [hshift]
                have := tr.om j (by simpa using hj)
                have a1 : k + (j + 1) = k + 1 + j := by omega
                rw [a1, if_neg (by omega)]
                exact this
            · intro j hj x hx2
              cases j with
              | zero =>
                rw [h0, (recOf_mask hrc).1] at hx2
                exact hm x hx2
              | succ j =>
                rw [hshift] at hx2
                have := tr.reach j (by simpa using hj) x hx2
                have a1 : k + (j + 1) = k + 1 + j := by omega
                rw [a1]; exact this
        · cases h
      · cases h
    · cases h

/-! ### What is asked of the trace -/
def confB (a b : Rec) : Bool :=
  (match a.o.dst with | some t => b.rd.contains t || b.o.dst == some t | none => false) ||
  (match b.o.dst with | some t => a.rd.contains t | none => false) ||
  (a.kd.isLoud && b.kd.isLoud) || (a.kd.isAlloc && b.kd.isLoud)

def pairB : List Rec → Bool
  | [] => true
  | a :: r => (r.all fun b => !confB a b || b.mask.testBit a.i) && pairB r

def fronts (Ω : Om) (recs : List Rec) : List (Nat × Om) := (0, Ω) :: (recs.filter (·.kd.isLoud)).map fun a => (a.i + 1, a.Ω')

def readB (P : Program) (recs : List Rec) (fr : List (Nat × Om)) : Bool :=
  recs.all fun a =>
    !(a.w && !a.kd.isLoud && !a.kd.isAlloc && isRead a.o) ||
    fr.all fun x =>
      (recs.any fun j => j.kd.isLoud && (if j.i < x.1 then j.mask.testBit a.i else a.mask.testBit j.i)) ||
      (match stillOp P a.R x.2 a.o with | some v => eqV v a.r | none => false)

def predB (recs : List Rec) : Bool := recs.all fun a => (predsOf a.o).all fun e => decide (e < a.i)
def rdB (n : Nat) (recs : List Rec) : Bool := recs.all fun a => a.rd.all fun t => decide (t < n)

def glB (gl : Nat) (recs : List Rec) : Bool := recs.all fun a => Nat.beq a.Ω.gl gl && Nat.beq a.Ω'.gl gl

def evDraw (P : Program) (call : CallF) (n : Nat) : DrawF := fun _ ops s =>
  if n < Tr.most ∧ s.Ω.next + ops.size < Tr.most then
    let Ω0 : Om := { s.Ω with next := s.Ω.next + ops.size }
    match evTr P call n ops s.Ω.next ops.toList 0 [] s.T Ω0 with
    | some (recs, T, Ω) =>
      if pairB recs && readB P recs (fronts Ω0 recs) && predB recs && rdB n recs && glB s.Ω.gl recs then some ⟨T, Ω⟩ else none
    | none => none
  else none

end Go.Ev
