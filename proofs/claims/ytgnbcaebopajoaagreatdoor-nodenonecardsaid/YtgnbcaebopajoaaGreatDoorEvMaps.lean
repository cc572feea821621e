/- Maps with whole numbers as keys; iterators over empty maps. -/
import Derived.Test.YtgnbcaebopajoaaGreatDoorEvOps
namespace Go.Ev
open Go.RowKit

/-! ### New objects, and objects that turn -/
def newBlk (Ω : Om) (x : Blk) : Om := ⟨Ω.gl, Ω.next + 1, Ω.h.set Ω.next (some x)⟩

theorem newObj_sound {φ base Ω w} (hr : HRel φ base Ω w) (hlim : Ω.next < Tr.most) (x : Blk) (hro : x.isRo = false) (o : Obj) (w' : World)
    (hw : w'.heap = w.heap.push o) (ht : w'.tape = w.tape) (ho : w'.os = w.os) (hou : w'.output = w.output)
    (hx : ObjAt (upd φ Ω.next (w.heap.size, 0)) base w' Ω.next x) :
    HRel (upd φ Ω.next (w.heap.size, 0)) base (newBlk Ω x) w' ∧ Stp φ Ω w (upd φ Ω.next (w.heap.size, 0)) (newBlk Ω x) w' ∧ upd φ Ω.next (w.heap.size, 0) Ω.next = some (w.heap.size, 0) := by
  have hf := hr.fresh Ω.next (Nat.le_refl _)
  have hext : Ext φ (upd φ Ω.next (w.heap.size, 0)) := upd_ext hf
  have hget : ∀ m, (newBlk Ω x).h.get m = if m = Ω.next then some x else Ω.h.get m := fun m => Tr.get_set _ _ _ _ hlim
  have hsz : w'.heap.size = w.heap.size + 1 := by rw [hw]; simp
  have hold : ∀ k, k < w.heap.size → w'.heap[k]? = w.heap[k]? := by
    intro k hk
    rw [hw, Array.getElem?_push, if_neg (by omega)]
  refine ⟨⟨?_, ?_, fun g hg => hext _ _ (hr.glob g hg), ?_, ?_, ?_, ?_, ?_⟩, ⟨hext, fun b hb => by unfold upd; rw [if_neg (by omega)], Nat.le_succ _, by omega, ht, ho, hou, ?_⟩, by simp [upd]⟩
  · intro b hb
    have hb' : Ω.next + 1 ≤ b := hb
    unfold upd
    rw [if_neg (by omega)]
    exact hr.fresh b (by omega)
  · show Ω.next + 1 ≤ _
    omega
  · have := hr.size; omega
  · intro b B C' hb
    unfold upd at hb
    split at hb
    · injection hb with hb; injection hb with h1 h2; omega
    · have := hr.bound _ _ _ hb; omega
  · intro b y h2
    rw [hget] at h2
    by_cases hbb : b = Ω.next
    · rw [if_pos hbb] at h2
      injection h2 with h2
      subst hbb h2
      exact hx
    · rw [if_neg hbb] at h2
      exact (hr.obj _ _ h2).move hext fun B2 C2 e2 => hold _ (hr.bound _ _ _ e2)
  · intro b y B2 C2 h2 hx2 e2
    rw [hget] at h2
    by_cases hbb : b = Ω.next
    · rw [if_pos hbb] at h2; injection h2 with h2; subst h2; rw [hro] at hx2; cases hx2
    · rw [if_neg hbb] at h2
      unfold upd at e2
      rw [if_neg hbb] at e2
      exact hr.glo _ _ _ _ h2 hx2 e2
  · intro b1 b2 x1 x2 B1 C1 C2 h1 h2 e1 e2
    rw [hget] at h1 h2
    unfold upd at e1 e2
    by_cases hb1 : b1 = Ω.next
    · by_cases hb2 : b2 = Ω.next
      · rw [hb1, hb2]
      · rw [if_pos hb1] at e1
        rw [if_neg hb2] at e2
        injection e1 with e1
        injection e1 with e3 e4
        have := hr.bound _ _ _ e2
        omega
    · by_cases hb2 : b2 = Ω.next
      · rw [if_neg hb1] at e1
        rw [if_pos hb2] at e2
        injection e2 with e2
        injection e2 with e3 e4
        have := hr.bound _ _ _ e1
        omega
      · rw [if_neg hb1] at e1 h1
        rw [if_neg hb2] at e2 h2
        exact hr.inj _ _ _ _ _ _ _ h1 h2 e1 e2
  · intro B hB hi
    refine ⟨hold B hB, ?_⟩
    rintro ⟨b, C', x2, h2, hx2, e2⟩
    rw [hget] at h2
    unfold upd at e2
    by_cases hbb : b = Ω.next
    · rw [if_pos hbb] at e2
      injection e2 with e2
      injection e2 with e3 e4
      omega
    · rw [if_neg hbb] at h2 e2
      exact hi ⟨b, C', x2, h2, hx2, e2⟩

theorem setObj_sound {φ base Ω w} (hr : HRel φ base Ω w) {b B C : Nat} {y : Blk} (hy : Ω.h.get b = some y) (hyr : y.isRo = false) (hb : φ b = some (B, C)) (x : Blk) (hro : x.isRo = false) (w' : World)
    (hsz : w'.heap.size = w.heap.size) (hother : ∀ B', B' ≠ B → w'.heap[B']? = w.heap[B']?) (ht : w'.tape = w.tape) (ho : w'.os = w.os) (hou : w'.output = w.output) (hx : ObjAt φ base w' b x) :
    HRel φ base { Ω with h := Ω.h.set b (some x) } w' ∧ Stp φ Ω w φ { Ω with h := Ω.h.set b (some x) } w' := by
  have hget : ∀ m, (Ω.h.set b (some x)).get m = if m = b then some x else Ω.h.get m := fun m => get_set_lt hr hb m
  have live : ∀ {m z}, (if m = b then some x else Ω.h.get m) = some z → ∃ z', Ω.h.get m = some z' := by
    intro m z h
    by_cases hm : m = b
    · exact ⟨y, hm ▸ hy⟩
    · rw [if_neg hm] at h; exact ⟨_, h⟩
  refine ⟨⟨hr.fresh, hr.lim, hr.glob, by rw [hsz]; exact hr.size, by rw [hsz]; exact hr.bound, ?_, ?_, ?_⟩, ⟨Ext.refl φ, fun _ _ => rfl, Nat.le_refl _, by rw [hsz]; exact Nat.le_refl _, ht, ho, hou, ?_⟩⟩
  · intro m z h
    rw [hget] at h
    by_cases hm : m = b
    · rw [if_pos hm] at h
      injection h with h
      subst hm h
      exact hx
    · rw [if_neg hm] at h
      refine (hr.obj _ _ h).move (Ext.refl φ) fun B2 C2 e2 => hother _ ?_
      intro he
      subst he
      exact hm (hr.inj _ _ _ _ _ _ _ h hy e2 hb)
  · intro m z B2 C2 h hz e
    rw [hget] at h
    by_cases hm : m = b
    · rw [if_pos hm] at h; injection h with h; subst h; rw [hro] at hz; cases hz
    · rw [if_neg hm] at h; exact hr.glo _ _ _ _ h hz e
  · intro b1 b2 x1 x2 B1 C1 C2 h1 h2 e1 e2
    rw [hget] at h1 h2
    obtain ⟨z1, k1⟩ := live h1
    obtain ⟨z2, k2⟩ := live h2
    exact hr.inj _ _ _ _ _ _ _ k1 k2 e1 e2
  · intro B1 hB1 hi
    have hne : B1 ≠ B := by
      intro he
      subst he
      exact hi ⟨b, C, y, hy, hyr, hb⟩
    refine ⟨hother _ hne, ?_⟩
    rintro ⟨b2, C2, x2, h2, hx2, e2⟩
    rw [hget] at h2
    by_cases hbb : b2 = b
    · subst hbb
      rw [hb] at e2
      injection e2 with e2
      injection e2 with e3 e4
      exact hne e3.symm
    · rw [if_neg hbb] at h2
      exact hi ⟨b2, C2, x2, h2, hx2, e2⟩

/-! ### makeMap -/
def makeMapOp (Ω : Om) : Option (Value × Om) := fN Ω.next fun b => if b < Tr.most then some (.map (some b), newBlk Ω (.map [])) else none

theorem makeMap_sound {P : Program} {φ base Ω w} (hr : HRel φ base Ω w) {t : TypeId} {v : Value} {Ω' : Om} (h : makeMapOp Ω = some (v, Ω')) :
    ∃ φ' w' v', (Instr.makeMap t none).run P w = .ok v' w' ∧ VRel φ' v v' ∧ HRel φ' base Ω' w' ∧ Stp φ Ω w φ' Ω' w' := by
  unfold makeMapOp at h
  rw [fN_eq] at h
  split at h
  · rename_i hlim
    injection h with h
    injection h with h1 h2
    subst h1 h2
    let w' : World := { w with heap := w.heap.push (.map #[] 0) }
    obtain ⟨k1, k2, k3⟩ := newObj_sound hr hlim (.map []) rfl (.map #[] 0) w' rfl rfl rfl rfl
      ⟨w.heap.size, 0, #[], 0, by simp [upd], by simp [w'], LRel.nil _, LRel.nil _, hr.size, List.Pairwise.nil, by simp⟩
    exact ⟨_, w', .map (some w.heap.size), by simp [Instr.makeMap, w'], .map k3, k1, k2⟩
  · cases h

/-! ### Finding a key -/
def findA (k : IntKind) (n : Int) : List (Value × Value) → Nat → Option (Option (Nat × Value))
  | [], _ => some none
  | (.int k' m, v) :: r, i => if k = k' then (if n = m then some (some (i, v)) else findA k n r (i + 1)) else none
  | _ :: _, _ => none

theorem find_sound {φ : Phi} {kd : IntKind} {k : IntKind} {n : Int} : ∀ {es : List (Value × Value)} {ents : List MapEntry} {i : Nat} {r : Option (Nat × Value)}, LRel φ (es.map (·.1)) (ents.map (·.key)) → LRel φ (es.map (·.2)) (ents.map (·.val)) →
    findA k n es i = some r → ∃ r', Instr.findNow (.int kd) (.int k n) ents i = some r' ∧
      ((r = none ∧ r' = none) ∨ ∃ j v v', r = some (i + j, v) ∧ r' = some (i + j, v') ∧ VRel φ v v' ∧ ∃ e, ents[j]? = some e ∧ e.key = .int k n) := by
  intro es
  induction es with
  | nil =>
    intro ents i r h1 h2 h
    have : ents = [] := by have := h1.1; simpa using this.symm
    subst this
    injection h with h
    subst h
    exact ⟨none, rfl, .inl ⟨rfl, rfl⟩⟩
  | cons x es ih =>
    intro ents i r h1 h2 h
    cases ents with
    | nil => have := h1.1; simp at this
    | cons e ents =>
      obtain ⟨a, v⟩ := x
      simp only [List.map_cons] at h1 h2
      obtain ⟨ka, ra, e1, hk, hk2⟩ := h1.of_uncons
      obtain ⟨va, rb, e2, hv, hv2⟩ := h2.of_uncons
      injection e1 with e1 e1'
      injection e2 with e2 e2'
      subst e1 e1' e2 e2'
      cases a with
      | int k' m =>
        simp only [findA] at h
        generalize hek : e.key = ek at hk
        cases hk
        split at h
        · rename_i hkk
          subst hkk
          split at h
          · rename_i hnm
            subst hnm
            injection h with h
            subst h
            exact ⟨some (i, e.val), by simp [Instr.findNow, hek, Instr.sameNow], .inr ⟨0, v, e.val, rfl, rfl, hv, e, rfl, hek⟩⟩
          · rename_i hnm
            obtain ⟨r', h3, h4⟩ := ih hk2 hv2 h
            have hb : (n == m) = false := by simp; exact hnm
            refine ⟨r', by simp only [Instr.findNow, hek, Instr.sameNow, if_true, hb]; exact h3, ?_⟩
            rcases h4 with ⟨rfl, rfl⟩ | ⟨j, v2, v3, rfl, rfl, hv3, e3, he3, he4⟩
            · exact .inl ⟨rfl, rfl⟩
            · refine .inr ⟨j + 1, v2, v3, ?_, ?_, hv3, e3, by simpa using he3, he4⟩
              · have : i + 1 + j = i + (j + 1) := by omega
                rw [this]
              · have : i + 1 + j = i + (j + 1) := by omega
                rw [this]
        · cases h
      | _ => simp [findA] at h

theorem checkKey_int {P : Program} {w : World} {t : TypeId} {kd k : IntKind} {n : Int} {b : Bool} (h : P.underlying t = some (.int kd)) : (Instr.checkKey b 10000 t (.int k n)).run P w = .ok () w := by
  obtain ⟨d, hd⟩ : ∃ d, (10000 : Nat) = d + 1 := ⟨9999, rfl⟩
  rw [hd]
  simp only [Instr.checkKey, Sem.run_bind, r_under h, Result.andThen_ok]
  rfl

/-! ### lookup -/
def entriesOf (Ω : Om) : Value → Option (List (Value × Value))
  | .map none => some []
  | .map (some b) => match Ω.h.get b with
    | some (.map es) => some es
    | _ => none
  | _ => none

def lookupOp (P : Program) (Ω : Om) (t : TypeId) (x ix : Value) (ok : Bool) : Option Value :=
  match P.underlying t with
  | some (.map key elem) =>
    match P.underlying key with
    | some (.int _) =>
      match ix with
      | .int k n =>
        match entriesOf Ω x with
        | some es =>
          match findA k n es 0 with
          | some (some (_, v)) => some (match ok with | true => .tuple ⟨[v, .bool true]⟩ | false => v)
          | some none =>
            match P.info? elem with
            | some i => match i.zero with
              | some z => if lit z then some (match ok with | true => .tuple ⟨[z, .bool false]⟩ | false => z) else none
              | none => none
            | none => none
          | none => none
        | none => none
      | _ => none
    | _ => none
  | _ => none

theorem map_obj {φ base Ω w} (hr : HRel φ base Ω w) {x x' : Value} {es : List (Value × Value)} (hx : VRel φ x x') (h : entriesOf Ω x = some es) :
    (x' = .map none ∧ es = []) ∨ (∃ b B C ents clock, x = .map (some b) ∧ x' = .map (some B) ∧ Ω.h.get b = some (.map es) ∧ MapAt φ base w b es B C ents clock) := by
  unfold entriesOf at h
  split at h
  · injection h with h; subst h; cases hx; exact .inl ⟨rfl, rfl⟩
  · rename_i b
    split at h
    · rename_i es' hg
      injection h with h
      subst h
      cases hx with
      | map hb =>
        obtain ⟨B', C', ents, clock, ma⟩ := hr.obj _ _ hg
        have e := ma.phi
        rw [hb] at e
        injection e with e
        injection e with e1 e2
        subst e1 e2
        exact .inr ⟨b, _, _, ents, clock, rfl, rfl, hg, ma⟩
    · cases h
  · cases h

theorem run_getMap {P : Program} {w : World} {B : Nat} {ents : Array MapEntry} {clock : Nat} (h : w.heap[B]? = some (.map ents clock)) : (getObj B).run P w = .ok (.map ents clock) w := by
  simp only [getObj, Sem.run, h]

theorem lookup_sound {P : Program} {φ base Ω w} (hr : HRel φ base Ω w) {t : TypeId} {x x' ix ix' v : Value} {ok : Bool} (hx : VRel φ x x') (hi : VRel φ ix ix') (h : lookupOp P Ω t x ix ok = some v) :
    ∃ v', (Instr.lookup t x' ix' ok).run P w = .ok v' w ∧ VRel φ v v' := by
  unfold lookupOp at h
  split at h
  · rename_i key elem hu
    split at h
    · rename_i kd hk
      split at h
      · rename_i k n
        cases hi
        split at h
        · rename_i es hes
          have hent : ∃ ents : Array MapEntry, LRel φ (es.map (·.1)) (ents.toList.map (·.key)) ∧ LRel φ (es.map (·.2)) (ents.toList.map (·.val)) ∧
              ∀ r', (Instr.findKey key (.int k n) ents.toList).run P w = .ok r' w → ∀ z, (r' = none → (zeroValue elem).run P w = .ok z w) →
                (Instr.lookup t x' (.int k n) ok).run P w = .ok (match r' with | some (_, v) => (if ok then .tuple #[v, .bool true] else v) | none => (if ok then .tuple #[z, .bool false] else z)) w := by
            rcases map_obj hr hx hes with ⟨rfl, rfl⟩ | ⟨b, B, C, ents, clock, rfl, rfl, hg, ma⟩
            · refine ⟨#[], LRel.nil _, LRel.nil _, fun r' hr' z hz => ?_⟩
              cases r' with
              | none => simp [Instr.lookup, r_under hu, checkKey_int hk, hr', hz rfl]
              | some x => simp [Instr.lookup, r_under hu, checkKey_int hk, hr']
            · refine ⟨ents, ma.keys, ma.vals, fun r' hr' z hz => ?_⟩
              cases r' with
              | none => simp [Instr.lookup, r_under hu, checkKey_int hk, hr', hz rfl, run_getMap ma.heap]
              | some x => simp [Instr.lookup, r_under hu, checkKey_int hk, hr', run_getMap ma.heap]
          obtain ⟨ents, hks, hvs, hrun⟩ := hent
          cases hf : findA k n es 0 with
          | none => rw [hf] at h; cases h
          | some r =>
            obtain ⟨r', hfn, hcase⟩ := find_sound (kd := kd) hks hvs hf
            have hfk : (Instr.findKey key (.int k n) ents.toList).run P w = .ok r' w := by
              simp only [Instr.findKey, Sem.run_bind, r_under hk, Result.andThen_ok, hfn]
              rfl
            rw [hf] at h
            rcases hcase with ⟨rfl, rfl⟩ | ⟨j, u, u', rfl, rfl, hu2, _⟩
            · simp only at h
              split at h
              · rename_i i hi2
                split at h
                · rename_i z hz
                  split at h
                  · rename_i hlit
                    injection h with h
                    subst h
                    have hrel := lit_rel (φ := φ) hlit
                    refine ⟨_, hrun _ hfk z (fun _ => r_zero hi2 hz), ?_⟩
                    cases ok with
                    | true => exact LRel.tuple (LRel.cons hrel (LRel.cons (.bool _) (LRel.nil _)))
                    | false => exact hrel
                  · cases h
                · cases h
              · cases h
            · simp only at h
              injection h with h
              subst h
              refine ⟨_, hrun _ hfk undef (fun h => by cases h), ?_⟩
              cases ok with
              | true => exact LRel.tuple (LRel.cons hu2 (LRel.cons (.bool _) (LRel.nil _)))
              | false => exact hu2
        · cases h
      · cases h
    · cases h
  · cases h

/-! ### store into a map -/
def setVal : List (Value × Value) → Nat → Value → List (Value × Value)
  | [], _, _ => []
  | (k, _) :: r, 0, v => (k, v) :: r
  | x :: r, i + 1, v => x :: setVal r i v

theorem setVal_keys : ∀ (es : List (Value × Value)) (i : Nat) (v : Value), (setVal es i v).map (·.1) = es.map (·.1)
  | [], _, _ => rfl
  | (k, u) :: r, 0, v => rfl
  | x :: r, i + 1, v => by simp [setVal, setVal_keys r i v]
theorem setVal_vals : ∀ (es : List (Value × Value)) (i : Nat) (v : Value), (setVal es i v).map (·.2) = (es.map (·.2)).set i v
  | [], _, _ => rfl
  | (k, u) :: r, 0, v => rfl
  | x :: r, i + 1, v => by simp [setVal, setVal_vals r i v]

theorem LRel.set {φ : Phi} {xs ys : List Value} (h : LRel φ xs ys) (i : Nat) {v v' : Value} (hv : VRel φ v v') : LRel φ (xs.set i v) (ys.set i v') := by
  refine ⟨by simp [h.1], fun j h1 h2 => ?_⟩
  simp only [List.getElem_set]
  by_cases hij : i = j
  · simp [hij]; exact hv
  · simp only [hij, if_false]
    exact h.2 j (by simpa using h1) (by simpa using h2)

def mapSetOp (P : Program) (Ω : Om) (t : TypeId) (m ix v : Value) : Option Om :=
  match P.underlying t with
  | some (.map key _) =>
    match P.underlying key with
    | some (.int _) =>
      match ix, m with
      | .int k n, .map (some b) =>
        match Ω.h.get b with
        | some (.map es) =>
          match findA k n es 0 with
          | some (some (i, _)) => some { Ω with h := Ω.h.set b (some (.map (setVal es i v))) }
          | some none => some { Ω with h := Ω.h.set b (some (.map (es ++ [(.int k n, v)]))) }
          | none => none
        | _ => none
      | _, _ => none
    | _ => none
  | _ => none

theorem mapSet_sound {P : Program} {φ base Ω w} (hr : HRel φ base Ω w) {t : TypeId} {m m' ix ix' v v' : Value} {Ω' : Om} (hm : VRel φ m m') (hi : VRel φ ix ix') (hv : VRel φ v v') (h : mapSetOp P Ω t m ix v = some Ω') :
    ∃ w', (Instr.mapUpdate t m' ix' v').run P w = .ok () w' ∧ HRel φ base Ω' w' ∧ Stp φ Ω w φ Ω' w' := by
  unfold mapSetOp at h
  split at h
  · rename_i key elem hu
    split at h
    · rename_i kd hk
      split at h
      · rename_i k n b
        cases hi
        split at h
        · rename_i es hg
          have hes : entriesOf Ω (.map (some b)) = some es := by simp [entriesOf, hg]
          rcases map_obj hr hm hes with ⟨he, _⟩ | ⟨b', B, C, ents, clock, he, rfl, hg', ma⟩
          · subst he; cases hm
          · injection he with he
            injection he with he
            subst he
            have hB : B < w.heap.size := (Array.getElem?_eq_some_iff.1 ma.heap).1
            have hset : ∀ (o : Obj), ({ w with heap := w.heap.setIfInBounds B o } : World).heap[B]? = some o ∧ ({ w with heap := w.heap.setIfInBounds B o } : World).heap.size = w.heap.size ∧
                ∀ B', B' ≠ B → ({ w with heap := w.heap.setIfInBounds B o } : World).heap[B']? = w.heap[B']? := by
              intro o
              refine ⟨by simp [hB], by simp, fun B' hne => ?_⟩
              simp [Ne.symm hne]
            cases hf : findA k n es 0 with
            | none => rw [hf] at h; cases h
            | some r =>
              obtain ⟨r', hfn, hcase⟩ := find_sound (kd := kd) ma.keys ma.vals hf
              have hfk : (Instr.findKey key (.int k n) ents.toList).run P w = .ok r' w := by
                simp only [Instr.findKey, Sem.run_bind, r_under hk, Result.andThen_ok, hfn]
                rfl
              rw [hf] at h
              rcases hcase with ⟨rfl, rfl⟩ | ⟨j, u, u', rfl, rfl, hu2, e, he1, he2⟩
              · simp only at h
                injection h with h
                subst h
                let o : Obj := .map (ents.push { key := .int k n, val := v', born := clock }) (clock + 1)
                obtain ⟨a1, a2, a3⟩ := hset o
                obtain ⟨q1, q2⟩ := setObj_sound hr hg rfl ma.phi (.map (es ++ [(.int k n, v)])) rfl { w with heap := w.heap.setIfInBounds B o } a2 a3 rfl rfl rfl
                  ⟨B, C, _, _, ma.phi, a1, by simpa using ma.keys.append (LRel.cons (.int k n) (LRel.nil φ)), by simpa using ma.vals.append (LRel.cons hv (LRel.nil φ)), ma.own, by simpa using ma.born.push⟩
                refine ⟨_, ?_, q1, q2⟩
                simp only [Instr.mapUpdate, Sem.run_bind, r_under hu, Result.andThen_ok, run_getMap ma.heap, checkKey_int hk, hfk]
                simp only [setObj, Sem.run, ma.heap]
                rfl
              · simp only [Nat.zero_add] at h
                injection h with h
                subst h
                have hj : j < ents.size := by have := (List.getElem?_eq_some_iff.1 he1).1; simpa using this
                have hej : ents[j]? = some e := by simpa using he1
                let o : Obj := .map (ents.modify j fun e => { e with key := .int k n, val := v' }) clock
                obtain ⟨a1, a2, a3⟩ := hset o
                have hkeys : ((ents.modify j fun e => { e with key := .int k n, val := v' }).toList.map (·.key)) = ents.toList.map (·.key) := by
                  apply List.ext_getElem?
                  intro x
                  simp only [List.getElem?_map, Array.getElem?_toList, Array.getElem?_modify]
                  by_cases hx : j = x
                  · subst hx; rw [if_pos rfl, hej]; simp [he2]
                  · rw [if_neg hx]
                have hvals : ((ents.modify j fun e => { e with key := .int k n, val := v' }).toList.map (·.val)) = (ents.toList.map (·.val)).set j v' := by
                  apply List.ext_getElem?
                  intro x
                  simp only [List.getElem?_map, Array.getElem?_toList, Array.getElem?_modify, List.getElem?_set, List.length_map, Array.length_toList]
                  by_cases hx : j = x
                  · subst hx; rw [if_pos rfl, if_pos rfl, if_pos hj, hej]; rfl
                  · rw [if_neg hx, if_neg hx]
                have hborn : ((ents.modify j fun e => { e with key := .int k n, val := v' }).toList.map (·.born)) = ents.toList.map (·.born) := by
                  apply List.ext_getElem?
                  intro x
                  simp only [List.getElem?_map, Array.getElem?_toList, Array.getElem?_modify]
                  by_cases hx : j = x
                  · subst hx; rw [if_pos rfl, hej]; rfl
                  · rw [if_neg hx]
                obtain ⟨q1, q2⟩ := setObj_sound hr hg rfl ma.phi (.map (setVal es j v)) rfl { w with heap := w.heap.setIfInBounds B o } a2 a3 rfl rfl rfl
                  ⟨B, C, _, _, ma.phi, a1, by rw [setVal_keys, hkeys]; exact ma.keys, by rw [setVal_vals, hvals]; exact ma.vals.set j hv, ma.own, by rw [hborn]; exact ma.born⟩
                refine ⟨_, ?_, q1, q2⟩
                have hstay : (Instr.keyThatStays (((ents[j]?).map (·.key)).getD (.int k n)) (.int k n)).run P w = .ok (.int k n) w := by
                  rw [hej]
                  simp only [Option.map_some, Option.getD_some, he2]
                  obtain ⟨d, hd⟩ : ∃ d, (10000 : Nat) = d + 1 := ⟨9999, rfl⟩
                  simp [Instr.keyThatStays, Instr.sameBits]
                simp only [Instr.mapUpdate, Sem.run_bind, r_under hu, Result.andThen_ok, run_getMap ma.heap, checkKey_int hk, hfk, Nat.zero_add, hstay]
                simp only [setObj, Sem.run, ma.heap]
                rfl
        · cases h
      · cases h
    · cases h
  · cases h

/-! ### len of a map; an iterator over a map that is empty -/
def lenMapOp (P : Program) (Ω : Om) (t : TypeId) (x : Value) : Option Value :=
  match P.underlying t with
  | some (.map _ _) => (entriesOf Ω x).bind fun es => fN es.length fun n => some (goInt n)
  | _ => none

theorem lenMap_sound {P : Program} {φ base Ω w} (hr : HRel φ base Ω w) {ts : Array TypeId} {t ty : TypeId} {x x' v : Value} (ht : ts.toList = [t]) (hx : VRel φ x x') (h : lenMapOp P Ω t x = some v) :
    (Builtin.len_ ts ty #[x']).run P w = .ok v w ∧ VRel φ v v := by
  obtain rfl : ts = #[t] := by cases ts; simp at ht; simp [ht]
  unfold lenMapOp at h
  split at h
  · rename_i key elem hu
    simp only [Option.bind_eq_some_iff, fN_eq] at h
    obtain ⟨es, hes, h⟩ := h
    injection h with h
    subst h
    refine ⟨?_, .int _ _⟩
    rcases map_obj hr hx hes with ⟨rfl, rfl⟩ | ⟨b, B, C, ents, clock, rfl, rfl, hg, ma⟩
    · simp [Builtin.len_, r_under hu]
    · have hl : ents.size = es.length := by have := ma.keys.1; simpa using this.symm
      simp [Builtin.len_, r_under hu, run_getMap ma.heap, hl]
  · cases h

def rangeOp (P : Program) (Ω : Om) (t : TypeId) (x : Value) : Option (Value × Om) :=
  match P.underlying t with
  | some (.map _ _) =>
    match x with
    | .map (some m) =>
      match Ω.h.get m with
      | some (.map _) => fN Ω.next fun b => if b < Tr.most then some (.pointer (some ⟨b, 0, none⟩), newBlk Ω (.iter m)) else none
      | _ => none
    | _ => none
  | _ => none

theorem range_sound {P : Program} {φ base Ω w} (hr : HRel φ base Ω w) {t : TypeId} {x x' v : Value} {Ω' : Om} (hx : VRel φ x x') (h : rangeOp P Ω t x = some (v, Ω')) :
    ∃ φ' w' v', (Instr.range t x').run P w = .ok v' w' ∧ VRel φ' v v' ∧ HRel φ' base Ω' w' ∧ Stp φ Ω w φ' Ω' w' := by
  unfold rangeOp at h
  split at h
  · rename_i key elem hu
    split at h
    · rename_i m
      split at h
      · rename_i es hg
        rw [fN_eq] at h
        split at h
        · rename_i hlim
          injection h with h
          injection h with h1 h2
          subst h1 h2
          cases hx with
          | map hb =>
            rename_i B C
            obtain ⟨B', C', ents, clock, ma⟩ := hr.obj _ _ hg
            have e := ma.phi
            rw [hb] at e
            injection e with e
            injection e with e1 e2
            subst e1 e2
            let w' : World := { w with heap := w.heap.push (.mapIter (some B) clock #[] clock) }
            have hne : m ≠ Ω.next := by
              intro he
              rw [he, hr.fresh _ (Nat.le_refl _)] at hb; cases hb
            obtain ⟨k1, k2, k3⟩ := newObj_sound hr hlim (.iter m) rfl (.mapIter (some B) clock #[] clock) w' rfl rfl rfl rfl
              ⟨w.heap.size, 0, B, C, clock, clock, by simp [upd], by unfold upd; rw [if_neg hne]; exact hb, by simp [w'], hr.size⟩
            exact ⟨_, w', .pointer (some ⟨w.heap.size, 0, none⟩), by simp [Instr.range, r_under hu, run_getMap ma.heap, w'], .ptr 0 k3, k1, k2⟩
        · cases h
      · cases h
    · cases h
  · cases h

def nextOp (Ω : Om) (it : Value) (str : Bool) : Option Value :=
  match it, str with
  | .pointer (some ⟨b, 0, none⟩), false =>
    match Ω.h.get b with
    | some (.iter m) => match Ω.h.get m with
      | some (.map []) => some (.tuple ⟨[.bool false]⟩)
      | _ => none
    | _ => none
  | _, _ => none

theorem next_sound {P : Program} {φ base Ω w} (hr : HRel φ base Ω w) {it it' v : Value} {str : Bool} {ty : TypeId} (hx : VRel φ it it') (h : nextOp Ω it str = some v) :
    (Instr.next it' str ty).run P w = .ok v w ∧ VRel φ v v := by
  unfold nextOp at h
  split at h
  · rename_i b
    split at h
    · rename_i m hg
      split at h
      · rename_i hm
        injection h with h
        subst h
        cases hx with
        | ptr _ hb =>
          rename_i B C
          obtain ⟨B', C', M, D, since, last, ia⟩ := hr.obj _ _ hg
          have e := ia.phi
          rw [hb] at e
          injection e with e
          injection e with e1 e2
          subst e1 e2
          obtain ⟨M', D', ents, clock, ma⟩ := hr.obj _ _ hm
          have e := ma.phi
          rw [ia.phiM] at e
          injection e with e
          injection e with e1 e2
          subst e1 e2
          have hz : ents = #[] := by
            have := ma.keys.1
            simp at this
            exact Array.eq_empty_of_size_eq_zero this.symm
          subst hz
          refine ⟨?_, LRel.tuple (LRel.cons (.bool _) (LRel.nil _))⟩
          have hgi : (getObj B).run P w = .ok (.mapIter (some M) since #[] last) w := by simp only [getObj, Sem.run, ia.heap]
          simp only [Instr.next, Sem.run_bind, hgi, Result.andThen_ok, run_getMap ma.heap]
          have hf : ∀ p : MapEntry → Bool, Array.filter p (#[] : Array MapEntry) 0 0 = #[] := fun p => rfl
          simp [Question.forced, hf]
      · cases h
    · cases h
  · cases h

end Go.Ev
