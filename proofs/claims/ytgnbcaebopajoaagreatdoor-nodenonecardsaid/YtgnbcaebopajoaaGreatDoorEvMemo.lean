/- A call whose outcome was reckoned once, at memory under other names. -/
import Derived.Test.YtgnbcaebopajoaaGreatDoorEvDraw
import Derived.Test.YtgnbcaebopajoaaGreatDoorEvCopy
namespace Go.Ev
open Go.RowKit

def look : List (Nat × Nat) → Nat → Option Nat
  | [], _ => none
  | (c, b) :: r, k => match Nat.beq c k with
    | true => some b
    | false => look r k

theorem look_mem : ∀ {L : List (Nat × Nat)} {c b : Nat}, look L c = some b → (c, b) ∈ L
  | (c', b') :: r, c, b, h => by
    simp only [look] at h
    split at h
    · rename_i hc
      have hc := Nat.eq_of_beq_eq_true hc
      injection h with h
      subst hc h
      exact List.mem_cons_self
    · exact List.mem_cons_of_mem _ (look_mem h)

def pair1 : Value → Value → List (Nat × Nat)
  | .pointer (some ⟨c, _, _⟩), .pointer (some ⟨b, _, _⟩) => [(c, b)]
  | .slice (some ⟨c, _, _⟩) _ _, .slice (some ⟨b, _, _⟩) _ _ => [(c, b)]
  | _, _ => []
def pairL : List Value → List Value → List (Nat × Nat)
  | x :: xs, y :: ys => pair1 x y ++ pairL xs ys
  | _, _ => []
def pairV : Value → Value → List (Nat × Nat)
  | .agg xs, .agg ys => pairL xs.toList ys.toList
  | x, y => pair1 x y
def pairA : List Value → List Value → List (Nat × Nat)
  | x :: xs, y :: ys => pairV x y ++ pairA xs ys
  | _, _ => []

def walk (Ω0 Ω : Om) : Nat → List (Nat × Nat) → List (Nat × Nat) → List (Nat × Nat)
  | 0, _, done => done
  | _ + 1, [], done => done
  | f + 1, (c, b) :: r, done =>
    match look done c with
    | some _ => walk Ω0 Ω f r done
    | none =>
      match Ω0.h.get c, Ω.h.get b with
      | some (.row _ cs _ _), some (.row _ cs' _ _) => walk Ω0 Ω f (r ++ pairL cs cs') ((c, b) :: done)
      | _, _ => walk Ω0 Ω f r done

def ren1 (L : List (Nat × Nat)) : Value → Option Value
  | .bool b => some (.bool b)
  | .int k n => some (.int k n)
  | .string s => some (.string s)
  | .pointer none => some (.pointer none)
  | .pointer (some ⟨c, o, none⟩) => (look L c).map fun b => .pointer (some ⟨b, o, none⟩)
  | .slice none n k => some (.slice none n k)
  | .slice (some ⟨c, o, none⟩) n k => (look L c).map fun b => .slice (some ⟨b, o, none⟩) n k
  | .nilIface => some .nilIface
  | .nilFunc => some .nilFunc
  | .map none => some (.map none)
  | .chan none => some (.chan none)
  | _ => none

def eqX : Value → Value → Bool
  | .chan none, .chan none => true
  | a, b => eq1 a b
theorem eqX_eq {a b : Value} (h : eqX a b = true) : a = b := by
  unfold eqX at h
  split at h
  · rfl
  · exact eq1_eq h

def ren (L : List (Nat × Nat)) (φ : Phi) : Phi := fun c => match look L c with
  | some b => φ b
  | none => none

theorem ren1_rel {L : List (Nat × Nat)} {φ : Phi} {v0 v v' : Value} (h : ren1 L v0 = some v) (hv : VRel φ v v') : VRel (ren L φ) v0 v' := by
  have hren : ∀ {c b : Nat} {x : Nat × Nat}, look L c = some b → φ b = some x → ren L φ c = some x := by
    intro c b x h1 h2
    simp only [ren, h1, h2]
  unfold ren1 at h
  split at h
  · injection h with h; subst h; cases hv; exact .bool _
  · injection h with h; subst h; cases hv; exact .int _ _
  · injection h with h; subst h; cases hv; exact .string _
  · injection h with h; subst h; cases hv; exact .nilPtr
  · simp only [Option.map_eq_some_iff] at h
    obtain ⟨b, h1, rfl⟩ := h
    cases hv with
    | ptr _ hb => exact .ptr _ (hren h1 hb)
  · injection h with h; subst h; cases hv; exact .nilSlice _ _
  · simp only [Option.map_eq_some_iff] at h
    obtain ⟨b, h1, rfl⟩ := h
    cases hv with
    | slice _ _ _ hb hc => exact .slice _ _ _ (hren h1 hb) hc
    | sliceU _ hb hn => exact .sliceU _ (hren h1 hb) hn
    | sliceV _ _ _ hb hn => exact .sliceV _ _ _ (hren h1 hb) hn
  · injection h with h; subst h; cases hv; exact .nilIface
  · injection h with h; subst h; cases hv; exact .nilFunc
  · injection h with h; subst h; cases hv; exact .nilMap
  · injection h with h; subst h; cases hv; exact .someInt _
  · cases h

def eqRen (L : List (Nat × Nat)) : List Value → List Value → Bool
  | [], [] => true
  | x :: xs, y :: ys => match ren1 L x with
    | some z => match eqX z y with
      | true => eqRen L xs ys
      | false => false
    | none => false
  | _, _ => false

theorem eqRen_rel {L : List (Nat × Nat)} {φ : Phi} : ∀ {xs ys zs : List Value}, eqRen L xs ys = true → LRel φ ys zs → LRel (ren L φ) xs zs
  | [], [], zs, _, hl => by obtain rfl := hl.of_nil; exact LRel.nil _
  | x :: xs, y :: ys, zs, h, hl => by
    simp only [eqRen] at h
    split at h
    · rename_i z hz
      split at h
      · rename_i hzy
        obtain rfl := eqX_eq hzy
        obtain ⟨y', r, rfl, h1, h2⟩ := hl.of_uncons
        exact LRel.cons (ren1_rel hz h1) (eqRen_rel h h2)
      · cases h
    · cases h
  | [], _ :: _, zs, h, _ => by simp [eqRen] at h
  | _ :: _, [], zs, h, _ => by simp [eqRen] at h

def eqRenV (L : List (Nat × Nat)) : Value → Value → Bool
  | .agg xs, .agg ys => eqRen L xs.toList ys.toList
  | x, y => eqRen L [x] [y]
theorem eqRenV_rel {L : List (Nat × Nat)} {φ : Phi} {x y z : Value} (h : eqRenV L x y = true) (hv : VRel φ y z) : VRel (ren L φ) x z := by
  unfold eqRenV at h
  split at h
  · obtain ⟨zs, rfl, hl⟩ := LRel.of_agg hv
    exact (eqRen_rel h hl).agg
  · have := eqRen_rel h (LRel.cons hv (LRel.nil φ))
    obtain ⟨z', r, e, h1, _⟩ := this.of_uncons
    injection e with e _
    subst e
    exact h1
def eqRenA (L : List (Nat × Nat)) : List Value → List Value → Bool
  | [], [] => true
  | x :: xs, y :: ys => match eqRenV L x y with
    | true => eqRenA L xs ys
    | false => false
  | _, _ => false
theorem eqRenA_rel {L : List (Nat × Nat)} {φ : Phi} : ∀ {xs ys zs : List Value}, eqRenA L xs ys = true → LRel φ ys zs → LRel (ren L φ) xs zs
  | [], [], zs, _, hl => by obtain rfl := hl.of_nil; exact LRel.nil _
  | x :: xs, y :: ys, zs, h, hl => by
    simp only [eqRenA] at h
    split at h
    · rename_i hxy
      obtain ⟨y', r, rfl, h1, h2⟩ := hl.of_uncons
      exact LRel.cons (eqRenV_rel hxy h1) (eqRenA_rel h h2)
    · cases h
  | [], _ :: _, zs, h, _ => by simp [eqRenA] at h
  | _ :: _, [], zs, h, _ => by simp [eqRenA] at h

/-! ### What was reckoned -/
structure Memo where
  rows : List (Nat × TypeId × List Value)
  n0 : Nat
  args : List Value
  res : Value

def memoH : List (Nat × TypeId × List Value) → Tr Blk
  | [] => .nil
  | (c, t, cs) :: r => (memoH r).set c (some (.row t cs true none))
def Memo.om (m : Memo) : Om := ⟨2, m.n0, memoH m.rows⟩

theorem memoH_get : ∀ {rows : List (Nat × TypeId × List Value)} {c : Nat} {x : Blk}, (∀ r ∈ rows, r.1 < Tr.most) → (memoH rows).get c = some x → ∃ t cs, (c, t, cs) ∈ rows ∧ x = .row t cs true none
  | [], c, x, _, h => by simp only [memoH, Tr.get_nil] at h; cases h
  | (k, t, cs) :: r, c, x, hk, h => by
    simp only [memoH] at h
    rw [Tr.get_set _ _ _ _ (hk (k, t, cs) List.mem_cons_self)] at h
    split at h
    · rename_i hc
      injection h with h
      subst hc
      exact ⟨t, cs, List.mem_cons_self, h.symm⟩
    · obtain ⟨t', cs', h1, h2⟩ := memoH_get (rows := r) (fun q hq => hk q (List.mem_cons_of_mem _ hq)) h
      exact ⟨t', cs', List.mem_cons_of_mem _ h1, h2⟩

def pairOk (L : List (Nat × Nat)) (Ω0 Ω : Om) (p : Nat × Nat) : Bool :=
  match Ω0.h.get p.1, Ω.h.get p.2 with
  | some (.row t cs true none), some (.row t' cs' _ _) => match Nat.beq t t' with
    | true => match Nat.ble (p.1 + 1) Ω0.next with
      | true => eqRen L cs cs'
      | false => false
    | false => false
  | _, _ => false

def seconds : List (Nat × Nat) → List Nat
  | [] => []
  | p :: r => p.2 :: seconds r
def hasN (k : Nat) : List Nat → Bool
  | [] => false
  | x :: r => match Nat.beq x k with
    | true => true
    | false => hasN k r
/-- No block stands for two. -/
def oneEach : List (Nat × Nat) → Bool
  | [] => true
  | p :: r => match hasN p.2 (seconds r) with
    | true => false
    | false => oneEach r

theorem hasN_mem {k : Nat} : ∀ {l : List Nat}, k ∈ l → hasN k l = true
  | x :: r, h => by
    simp only [hasN]
    split
    · rfl
    · rename_i hx
      rcases List.mem_cons.1 h with rfl | h
      · exact absurd hx (by simp)
      · exact hasN_mem h
theorem mem_seconds {c b : Nat} : ∀ {L : List (Nat × Nat)}, (c, b) ∈ L → b ∈ seconds L
  | p :: r, h => by
    simp only [seconds]
    rcases List.mem_cons.1 h with rfl | h
    · exact List.mem_cons_self
    · exact List.mem_cons_of_mem _ (mem_seconds h)
theorem oneEach_inj : ∀ {L : List (Nat × Nat)} {c1 c2 b : Nat}, oneEach L = true → (c1, b) ∈ L → (c2, b) ∈ L → c1 = c2
  | p :: r, c1, c2, b, h, h1, h2 => by
    simp only [oneEach] at h
    split at h
    · cases h
    · rename_i hn
      have no : ∀ {c : Nat}, p.2 = b → (c, b) ∈ r → False := by
        intro c hp hm
        rw [hp, hasN_mem (mem_seconds hm)] at hn
        cases hn
      rcases List.mem_cons.1 h1 with e1 | m1
      · rcases List.mem_cons.1 h2 with e2 | m2
        · rw [← e2] at e1; injection e1
        · exact (no (by rw [← e1]) m2).elim
      · rcases List.mem_cons.1 h2 with e2 | m2
        · exact (no (by rw [← e2]) m1).elim
        · exact oneEach_inj h m1 m2

def isIt (x : Option Nat) (k : Nat) : Bool := match x with
  | some y => Nat.beq y k
  | none => false
theorem isIt_eq {x : Option Nat} {k : Nat} (h : isIt x k = true) : x = some k := by
  unfold isIt at h
  split at h
  · rw [Nat.eq_of_beq_eq_true h]
  · cases h

def memoFits (m : Memo) (L : List (Nat × Nat)) (args : List Value) (Ω : Om) : Bool :=
  match Nat.beq Ω.gl 2, isIt (look L 0) 0, isIt (look L 1) 1, eqRenA L m.args args, allB (pairOk L m.om Ω) L, oneEach L, allB (fun r => (look L r.1).isSome) m.rows with
  | true, true, true, true, true, true, true => true
  | _, _, _, _, _, _, _ => false

def memoOp (m : Memo) (args : List Value) (Ω : Om) : Option (Res × Om) :=
  match memoFits m (walk m.om Ω 1000 ((0, 0) :: (1, 1) :: pairA m.args args) []) args Ω with
  | true => some (.ret m.res, Ω)
  | false => none

/-- The names fit the block numbers. -/
def Memo.tight (m : Memo) : Bool := match Nat.ble m.n0 Tr.most with
  | true => allB (fun r => Nat.ble (r.1 + 1) m.n0) m.rows
  | false => false

theorem memo_rel {m : Memo} (ht : m.tight = true) {L : List (Nat × Nat)} {args : List Value} {Ω : Om} (h : memoFits m L args Ω = true) {φ : Phi} {base : Nat} {w : World} {args' : List Value} (hr : HRel φ base Ω w) (hl : LRel φ args args') :
    HRel (ren L φ) w.heap.size m.om w ∧ LRel (ren L φ) m.args args' := by
  unfold memoFits at h
  split at h
  · rename_i h1 h2 h3 h4 h5 h6 h7
    have h2 := isIt_eq h2
    have h3 := isIt_eq h3
    have hgl : Ω.gl = 2 := Nat.eq_of_beq_eq_true h1
    unfold Memo.tight at ht
    split at ht
    · rename_i hn0
      have hn0 := Nat.le_of_ble_eq_true hn0
      have hkeys : ∀ r ∈ m.rows, r.1 < m.n0 := fun r hr => Nat.le_of_ble_eq_true (allB_mem ht r hr)
      have hk : ∀ r ∈ m.rows, r.1 < Tr.most := fun r hr => Nat.lt_of_lt_of_le (hkeys r hr) hn0
      -- what a name stands for
      have hpair : ∀ {c b}, look L c = some b → c < m.n0 ∧ ∃ t cs cs' ro g, m.om.h.get c = some (.row t cs true none) ∧ Ω.h.get b = some (.row t cs' ro g) ∧ eqRen L cs cs' = true := by
        intro c b hc
        have hp := allB_mem h5 _ (look_mem hc)
        unfold pairOk at hp
        split at hp
        · rename_i t cs t' cs' ro g e1 e2
          split at hp
          · rename_i htt
            obtain rfl := Nat.eq_of_beq_eq_true htt
            split at hp
            · rename_i hle
              exact ⟨Nat.le_of_ble_eq_true hle, t, cs, cs', ro, g, e1, e2, hp⟩
            · cases hp
          · cases hp
        · cases hp
      have hget : ∀ {c x}, m.om.h.get c = some x → ∃ b, look L c = some b := by
        intro c x hc
        obtain ⟨t, cs, hm, _⟩ := memoH_get hk hc
        have := allB_mem h7 _ hm
        cases hlk : look L c with
        | none => rw [hlk] at this; cases this
        | some b => exact ⟨b, rfl⟩
      have hren : ∀ {c b}, look L c = some b → ren L φ c = φ b := by
        intro c b hc
        simp only [ren, hc]
      refine ⟨⟨?_, hn0, ?_, Nat.le_refl _, ?_, ?_, ?_, ?_⟩, eqRenA_rel h4 hl⟩
      · intro c hc
        cases hlk : look L c with
        | none => simp only [ren, hlk]
        | some b =>
          have := (hpair hlk).1
          have hc : m.n0 ≤ c := hc
          omega
      · intro g hg
        have hg : g < 2 := hg
        have hcase : g = 0 ∨ g = 1 := by omega
        rcases hcase with rfl | rfl
        · rw [hren h2]; exact hr.glob 0 (by omega)
        · rw [hren h3]; exact hr.glob 1 (by omega)
      · intro c B C hc
        cases hlk : look L c with
        | none => simp only [ren, hlk] at hc; cases hc
        | some b => rw [hren hlk] at hc; exact hr.bound _ _ _ hc
      · intro c x hc
        obtain ⟨b, hlk⟩ := hget hc
        obtain ⟨_, t, cs, cs', ro, g, e1, e2, e3⟩ := hpair hlk
        rw [hc] at e1
        injection e1 with e1
        subst e1
        obtain ⟨B, C, CS, fz, ra⟩ := hr.row b _ _ _ _ e2
        have hlen : cs.length = cs'.length ∧ ∀ i (hi : i < cs.length), ∃ h' : i < CS.size, VRel (ren L φ) cs[i] CS[i] := by
          have hll : LRel φ cs' (CS.toList.take cs'.length) := by
            have hlt : cs'.length ≤ CS.size := by
              apply Nat.le_of_not_lt
              intro hlt
              obtain ⟨h', _⟩ := ra.vals CS.size hlt
              omega
            refine ⟨by simp; omega, fun i h1 h2 => ?_⟩
            obtain ⟨h', hv⟩ := ra.vals i h1
            simpa using hv
          have := eqRen_rel e3 hll
          refine ⟨?_, fun i hi => ?_⟩
          · have := this.1
            simp at this
            have hlt : cs'.length ≤ CS.size := by
              apply Nat.le_of_not_lt
              intro hlt
              obtain ⟨h', _⟩ := ra.vals CS.size hlt
              omega
            omega
          · have h1 := this.1
            have h2 := this.2 i hi (by omega)
            have h3 : i < CS.size := by simp at h1; omega
            exact ⟨h3, by simpa using h2⟩
        exact ⟨B, C, CS, fz, by rw [hren hlk]; exact ra.phi, ra.heap, ra.free, hlen.2, fun h => (by cases h), fun k h => (by cases h)⟩
      · intro c x B C _ _ hp
        cases hlk : look L c with
        | none => simp only [ren, hlk] at hp; cases hp
        | some b => rw [hren hlk] at hp; exact hr.bound _ _ _ hp
      · intro c1 c2 x1 x2 B C1 C2 g1 g2 p1 p2
        obtain ⟨b1, l1⟩ := hget g1
        obtain ⟨b2, l2⟩ := hget g2
        rw [hren l1] at p1
        rw [hren l2] at p2
        obtain ⟨_, t1, cs1, cs1', ro1, gg1, _, e1, _⟩ := hpair l1
        obtain ⟨_, t2, cs2, cs2', ro2, gg2, _, e2, _⟩ := hpair l2
        have hb : b1 = b2 := hr.inj b1 b2 _ _ B C1 C2 e1 e2 p1 p2
        subst hb
        exact oneEach_inj h6 (look_mem l1) (look_mem l2)
    · cases ht
  · cases h

/-- What stands below turns not, so what is known stays known. -/
theorem HRel.stay {φ base Ω w w'} (hr : HRel φ base Ω w) (hb : Below w.heap.size w w') : HRel φ base Ω w' ∧ Stp φ Ω w φ Ω w' := by
  refine ⟨⟨hr.fresh, hr.lim, hr.glob, Nat.le_trans hr.size hb.size, fun b B C h => Nat.lt_of_lt_of_le (hr.bound b B C h) hb.size, fun b x h => (hr.obj b x h).move (Ext.refl φ) fun B C e => hb.block _ (hr.bound _ _ _ e), hr.glo, hr.inj⟩, ?_⟩
  exact ⟨Ext.refl φ, fun _ _ => rfl, Nat.le_refl _, hb.size, hb.tape, hb.os, hb.output, fun B hB hi => ⟨hb.block B hB, hi⟩⟩

theorem memoOp_ok {P : Program} {call : CallG} (hc : CallGOk P call) {m : Memo} (ht : m.tight = true) {f : FuncId} {Ω1 : Om} (hm : call f m.args m.om = some (.ret m.res, Ω1)) (hres : ∀ φ φ' v', VRel φ m.res v' → VRel φ' m.res v')
    {args : List Value} {Ω Ω' : Om} {res : Res} (h : memoOp m args Ω = some (res, Ω')) {φ : Phi} {base : Nat} {w : World} {args' : List Value} (hr : HRel φ base Ω w) (hl : LRel φ args args') :
    Calls P f args'.toArray w (RPost φ base Ω w res Ω') := by
  unfold memoOp at h
  split at h
  · rename_i hfit
    injection h with h
    injection h with e1 e2
    subst e1 e2
    obtain ⟨h1, h2⟩ := memo_rel ht hfit hr hl
    refine (hc f m.args m.om _ Ω1 hm _ _ w args' h1 h2).mono ?_
    rintro e w' ⟨φ', v', rfl, hv, _, st⟩
    obtain ⟨k1, k2⟩ := hr.stay (st.below h1)
    exact ⟨φ, v', rfl, hres _ _ _ hv, k1, k2⟩
  · cases h

end Go.Ev
