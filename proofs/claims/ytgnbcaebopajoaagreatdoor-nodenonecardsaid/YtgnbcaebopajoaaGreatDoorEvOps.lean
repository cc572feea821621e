/- Operations on places and memory: load, store, alloc, box, fieldAddr, indexAddr, index, slice, field, extract, len. -/
import Derived.Test.YtgnbcaebopajoaaGreatDoorEvPure
namespace Go.Ev
open Go.RowKit

section
variable {P : Program} {w : World} {t : TypeId}
theorem r_info {i : TypeInfo} (h : P.info? t = some i) : (typeInfo t).run P w = .ok i w := by simp [typeInfo, h]
theorem r_under {d : TypeDesc} (h : P.underlying t = some d) : (underlying t).run P w = .ok d w := by simp [underlying, h]
theorem r_size {i : TypeInfo} (h : P.info? t = some i) : (sizeOf t).run P w = .ok i.size w := by simp [sizeOf, r_info h]
theorem r_zero {i : TypeInfo} {z : Value} (h : P.info? t = some i) (hz : i.zero = some z) : (zeroValue t).run P w = .ok z w := by simp [zeroValue, r_info h, hz]
end

def isAggD : TypeDesc → Bool
  | .struct _ => true
  | .array _ _ => true
  | _ => false

theorem r_isAgg {P : Program} {w : World} {t : TypeId} {d : TypeDesc} (h : P.underlying t = some d) : (isAgg t).run P w = .ok (isAggD d) w := by
  unfold isAgg
  rw [Sem.run_bind, r_under h]
  cases d <;> rfl

/-! ### load, store -/
def loadOp (P : Program) (Ω : Om) (t : TypeId) (a : Value) : Option Value :=
  match a with
  | .pointer (some ⟨b, o, none⟩) =>
    match P.underlying t with
    | some d =>
      match isAggD d with
      | true =>
        match P.info? t with
        | some i => (rdCells Ω b o i.size).map fun l => .agg ⟨l⟩
        | none => none
      | false =>
        match rdCells Ω b o 1 with
        | some [v] => some v
        | _ => none
    | none => none
  | _ => none

theorem loadVar_sound {P : Program} {φ base Ω w} (hr : HRel φ base Ω w) {t : TypeId} {b o B C : Nat} {v : Value} (hb : φ b = some (B, C)) (h : loadOp P Ω t (.pointer (some ⟨b, o, none⟩)) = some v) :
    ∃ v', (loadVar t ⟨B, o, none⟩).run P w = .ok v' w ∧ VRel φ v v' := by
  simp only [loadOp] at h
  split at h
  · rename_i d hd
    unfold loadVar
    rw [Sem.run_bind, r_isAgg hd]
    simp only [Result.andThen_ok]
    split at h
    · rename_i hagg
      split at h
      · rename_i i hi
        simp only [Option.map_eq_some_iff] at h
        obtain ⟨l, hl, rfl⟩ := h
        obtain ⟨l', hrel, hlen, hcell⟩ := rd_sound hr hb hl
        refine ⟨.agg ⟨l'⟩, ?_, hrel.agg⟩
        have := run_loadCells' P w B o l' hcell
        rw [hlen] at this
        simp [hagg, r_size hi, this]
      · cases h
    · rename_i hagg
      split at h
      · rename_i x hx
        injection h with h
        subst h
        obtain ⟨l', hrel, hlen, hcell⟩ := rd_sound hr hb hx
        obtain ⟨v', r, rfl, hv, hr2⟩ := hrel.of_uncons
        obtain rfl := hr2.of_nil
        refine ⟨v', ?_, hv⟩
        have := hcell 0 (by simp)
        simp at this
        simp [hagg, this]
      · cases h
  · cases h

theorem load_sound {P : Program} {φ base Ω w} (hr : HRel φ base Ω w) {t : TypeId} {a a' v : Value} (ha : VRel φ a a') (h : loadOp P Ω t a = some v) :
    ∃ v', (Instr.loadAt t a').run P w = .ok v' w ∧ VRel φ v v' := by
  have hh := h
  unfold loadOp at h
  split at h
  · rename_i b o
    cases ha with
    | ptr _ hb =>
      obtain ⟨v', h1, h2⟩ := loadVar_sound hr hb hh
      exact ⟨v', by simp [Instr.loadAt, Instr.sureAddr, h1], h2⟩
  · cases h

def storeOp (P : Program) (Ω : Om) (t : TypeId) (a v : Value) : Option Om :=
  match a with
  | .pointer (some ⟨b, o, none⟩) =>
    match P.info? t with
    | some i => let l := v.cells.toList; if l.length = i.size then wrCells Ω b o l else none
    | none => none
  | _ => none

theorem store_sound {P : Program} {φ base Ω w} (hr : HRel φ base Ω w) {t : TypeId} {a a' v v' : Value} {Ω' : Om} (ha : VRel φ a a') (hv : VRel φ v v') (h : storeOp P Ω t a v = some Ω') :
    ∃ w', (Instr.storeAt t a' v').run P w = .ok () w' ∧ HRel φ base Ω' w' ∧ Stp φ Ω w φ Ω' w' := by
  unfold storeOp at h
  split at h
  · rename_i b o
    cases ha with
    | ptr _ hb =>
      split at h
      · rename_i i hi
        dsimp only at h
        split at h
        · rename_i hlen
          have hl := LRel.cells hv
          obtain ⟨w', h1, h2, h3⟩ := wr_sound P hr hb h hl
          refine ⟨w', ?_, h2, h3⟩
          have hsz : v'.cells.size = i.size := by rw [← hlen, hl.1]; simp
          simp [Instr.storeAt, Instr.sureAddr, storeVar, r_size hi, hsz, h1]
        · cases h
      · cases h
  · cases h

/-! ### alloc, box -/
def lits (l : List Value) : Bool := l.all lit1
theorem lits_lrel {φ : Phi} {l : List Value} (h : lits l = true) : LRel φ l l := by
  refine ⟨rfl, fun i h1 _ => ?_⟩
  unfold lits at h
  rw [List.all_eq_true] at h
  exact lit1_rel (h _ (List.getElem_mem h1))

def allocOp (P : Program) (Ω : Om) (t : TypeId) : Option (Value × Om) :=
  match P.info? t with
  | some i =>
    match i.zero with
    | some z => let l := z.cells.toList; if lits l then fN Ω.next fun b => if b < Tr.most then some (.pointer (some ⟨b, 0, none⟩), newRow Ω t l none) else none else none
    | none => none
  | none => none

def boxOp (Ω : Om) (t : TypeId) (v : Value) : Option (Value × Om) :=
  fN Ω.next fun b => if b < Tr.most then some (.pointer (some ⟨b, 0, none⟩), newRow Ω t v.cells.toList none) else none

theorem newVar_sound {P : Program} {φ base Ω w} (hr : HRel φ base Ω w) (hlim : Ω.next < Tr.most) {t : TypeId} {v v' : Value} (hv : LRel φ v.cells.toList v'.cells.toList) :
    ∃ φ' w', (newVar t v').run P w = .ok ⟨w.heap.size, 0, none⟩ w' ∧ HRel φ' base (newRow Ω t v.cells.toList none) w' ∧ Stp φ Ω w φ' (newRow Ω t v.cells.toList none) w' ∧ φ' Ω.next = some (w.heap.size, 0) := by
  let w' : World := { w with heap := w.heap.push (.cells v'.cells t) }
  obtain ⟨h1, h2, h3⟩ := new_sound hr hlim t v.cells.toList none 0 v'.cells (0, 0) w' rfl rfl rfl rfl (by intro i _; simp) (fun i h => ⟨by have := hv.1; simp at this; simp at h; omega, by
    have := hv.2 i h (by have := hv.1; omega)
    simpa using this⟩) (fun k h => by cases h)
  exact ⟨_, w', by simp [newVar, Go.newRow, w'], h1, h2, h3⟩

theorem alloc_sound {P : Program} {φ base Ω w} (hr : HRel φ base Ω w) {t : TypeId} {v : Value} {Ω' : Om} (h : allocOp P Ω t = some (v, Ω')) :
    ∃ φ' w' v', (Instr.alloc t true (.tuple #[])).run P w = .ok v' w' ∧ VRel φ' v v' ∧ HRel φ' base Ω' w' ∧ Stp φ Ω w φ' Ω' w' := by
  unfold allocOp at h
  split at h
  · rename_i i hi
    split at h
    · rename_i z hz
      dsimp only at h
      split at h
      · rename_i hl
        rw [fN_eq] at h
        split at h
        · rename_i hlim
          injection h with h
          injection h with ha hb
          subst ha hb
          obtain ⟨φ', w', h1, h2, h3, h4⟩ := newVar_sound (P := P) hr hlim (t := t) (v := z) (v' := z) (lits_lrel hl)
          exact ⟨φ', w', _, by simp [Instr.alloc, r_zero hi hz, h1], .ptr 0 h4, h2, h3⟩
        · cases h
      · cases h
    · cases h
  · cases h

theorem box_sound {P : Program} {φ base Ω w} (hr : HRel φ base Ω w) {t : TypeId} {x x' v : Value} {Ω' : Om} (hx : VRel φ x x') (h : boxOp Ω t x = some (v, Ω')) :
    ∃ φ' w' v', (Instr.box t x').run P w = .ok v' w' ∧ VRel φ' v v' ∧ HRel φ' base Ω' w' ∧ Stp φ Ω w φ' Ω' w' := by
  unfold boxOp at h
  rw [fN_eq] at h
  split at h
  · rename_i hlim
    injection h with h
    injection h with ha hb
    subst ha hb
    obtain ⟨φ', w', h1, h2, h3, h4⟩ := newVar_sound (P := P) hr hlim (t := t) (v := x) (v' := x') (LRel.cells hx)
    exact ⟨φ', w', _, by simp [Instr.box, h1], .ptr 0 h4, h2, h3⟩
  · cases h

/-! ### Addresses -/
def fieldAddrOp (P : Program) (s : TypeId) (x : Value) (f : Nat) : Option Value :=
  match P.underlying s with
  | some (.struct fields) =>
    match fields[f]? with
    | some fd =>
      match x with
      | .pointer (some ⟨b, o, none⟩) =>
        match P.info? fd.type with
        | some i => if i.size = 0 then none else fN (o + fd.offset) fun o => some (.pointer (some ⟨b, o, none⟩))
        | none => none
      | _ => none
    | none => none
  | _ => none

theorem fieldAddr_sound {P : Program} {φ : Phi} {w : World} {s : TypeId} {x x' v : Value} {f : Nat} (hx : VRel φ x x') (h : fieldAddrOp P s x f = some v) :
    ∃ v', (Instr.fieldAt s x' f).run P w = .ok v' w ∧ VRel φ v v' := by
  unfold fieldAddrOp at h
  split at h
  · rename_i fields hu
    split at h
    · rename_i fd hf
      split at h
      · rename_i b o
        cases hx with
        | ptr _ hb =>
          split at h
          · rename_i i hi
            split at h
            · cases h
            · rename_i hsz
              rw [fN_eq] at h
              injection h with h
              subst h
              refine ⟨_, ?_, .ptr _ hb⟩
              simp [Instr.fieldAt, r_under hu, hf, Instr.sureAddr, fieldPlace, r_size hi, hsz, add_plain]
          · cases h
      · cases h
    · cases h
  · cases h

def indexAddrOp (P : Program) (t : TypeId) (x ix : Value) : Option Value :=
  match ix with
  | .int _ i =>
    match P.underlying t with
    | some (.array len elem) =>
      match x with
      | .pointer (some ⟨b, o, none⟩) =>
        match P.info? elem with
        | some inf => if 0 ≤ i ∧ i < len then fN (o + i.toNat * inf.size) fun o => some (.pointer (some ⟨b, o, none⟩)) else none
        | none => none
      | _ => none
    | some (.slice elem) =>
      match x with
      | .slice (some ⟨b, o, none⟩) len _ =>
        match P.info? elem with
        | some inf => if 0 ≤ i ∧ i < len then fN (o + i.toNat * inf.size) fun o => some (.pointer (some ⟨b, o, none⟩)) else none
        | none => none
      | _ => none
    | _ => none
  | _ => none

theorem indexAddr_sound {P : Program} {φ : Phi} {w : World} {t : TypeId} {x x' ix ix' v : Value} (hx : VRel φ x x') (hi : VRel φ ix ix') (h : indexAddrOp P t x ix = some v) :
    ∃ v', (Instr.indexAt t x' ix').run P w = .ok v' w ∧ VRel φ v v' := by
  unfold indexAddrOp at h
  split at h
  · rename_i k i
    cases hi
    split at h
    · rename_i len elem hu
      split at h
      · cases hx with
        | ptr _ hb =>
          split at h
          · rename_i inf hinf
            split at h
            · rename_i hlt
              rw [fN_eq] at h
              injection h with h
              subst h
              refine ⟨_, ?_, .ptr _ hb⟩
              simp [Instr.indexAt, asIntOf, r_under hu, Instr.sureAddr, r_size hinf, hlt, add_plain]
            · cases h
          · cases h
      · cases h
    · rename_i elem hu
      split at h
      · split at h
        · rename_i inf hinf
          split at h
          · rename_i hlt
            rw [fN_eq] at h
            injection h with h
            subst h
            cases hx with
            | slice _ _ _ hb => exact ⟨_, by simp [Instr.indexAt, asIntOf, r_under hu, r_size hinf, hlt, add_plain], .ptr _ hb⟩
            | sliceU _ hb => exact ⟨_, by simp [Instr.indexAt, asIntOf, r_under hu, r_size hinf, hlt, add_plain], .ptr _ hb⟩
            | sliceV _ _ _ hb => exact ⟨_, by simp [Instr.indexAt, asIntOf, r_under hu, r_size hinf, hlt, add_plain], .ptr _ hb⟩
          · cases h
        · cases h
      · cases h
    · cases h
  · cases h

/-! ### index of a text, extract, field -/
def indexOp (P : Program) (t : TypeId) (x ix : Value) : Option Value :=
  match ix with
  | .int _ i =>
    match P.underlying t with
    | some .string =>
      match x with
      | .string s => if 0 ≤ i then match s.data.toList[i.toNat]? with | some b => fN b.toNat fun n => some (.int .u8 n) | none => none else none
      | _ => none
    | _ => none
  | _ => none

theorem index_sound {P : Program} {φ : Phi} {w : World} {t : TypeId} {x x' ix ix' v : Value} (hx : VRel φ x x') (hi : VRel φ ix ix') (h : indexOp P t x ix = some v) :
    (Instr.index t x' ix').run P w = .ok v w ∧ VRel φ v v := by
  unfold indexOp at h
  split at h
  · cases hi
    split at h
    · rename_i hu
      split at h
      · rename_i s
        cases hx
        split at h
        · rename_i h0
          split at h
          · rename_i b hb
            rw [fN_eq] at h
            injection h with h
            subst h
            refine ⟨?_, .int _ _⟩
            rename_i k i _ _ _
            have : s[i.toNat]? = some b := by
              rw [← hb]
              by_cases hlt : i.toNat < s.size
              · rw [getElem?_pos s _ hlt, Array.getElem?_toList, getElem?_pos s.data _ hlt]; rfl
              · rw [getElem?_neg s _ hlt, Array.getElem?_toList, getElem?_neg s.data _ hlt]
            simp [Instr.index, asIntOf, r_under hu, h0, this]
          · cases h
        · cases h
      · cases h
    · cases h
  · cases h

def extractOp (x : Value) (i : Nat) : Option Value :=
  match x with
  | .tuple vs => vs.toList[i]?
  | _ => none

theorem extract_sound {P : Program} {φ : Phi} {w : World} {x x' v : Value} {i : Nat} (hx : VRel φ x x') (h : extractOp x i = some v) :
    ∃ v', (Instr.extract x' i).run P w = .ok v' w ∧ VRel φ v v' := by
  unfold extractOp at h
  split at h
  · obtain ⟨xs', rfl, hl⟩ := LRel.of_tuple hx
    rw [List.getElem?_eq_some_iff] at h
    obtain ⟨hi, rfl⟩ := h
    have hi2 : i < xs'.toList.length := by rw [← hl.1]; exact hi
    have hi3 : i < xs'.size := by simpa using hi2
    refine ⟨xs'.toList[i], ?_, hl.2 i hi hi2⟩
    simp [Instr.extract, hi3]
  · cases h

def fieldOp (P : Program) (t : TypeId) (x : Value) (f : Nat) : Option Value :=
  match P.underlying t with
  | some (.struct fields) =>
    match fields[f]? with
    | some fd =>
      match x with
      | .agg cs =>
        match P.underlying fd.type with
        | some d =>
          match isAggD d with
          | true =>
            match P.info? fd.type with
            | some i => some (.agg ⟨(cs.toList.drop fd.offset).take i.size⟩)
            | none => none
          | false => cs.toList[fd.offset]?
        | none => none
      | _ => none
    | none => none
  | _ => none

theorem field_sound {P : Program} {φ : Phi} {w : World} {t : TypeId} {x x' v : Value} {f : Nat} (hx : VRel φ x x') (h : fieldOp P t x f = some v) :
    ∃ v', (Instr.field t x' f).run P w = .ok v' w ∧ VRel φ v v' := by
  unfold fieldOp at h
  split at h
  · rename_i fields hu
    split at h
    · rename_i fd hf
      split at h
      · obtain ⟨cs', rfl, hl⟩ := LRel.of_agg hx
        split at h
        · rename_i d hd
          split at h
          · rename_i hagg
            split at h
            · rename_i i hi
              injection h with h
              subst h
              refine ⟨.agg ⟨(cs'.toList.drop fd.offset).take i.size⟩, ?_, ((hl.drop _).take _).agg⟩
              have e : cs'.extract fd.offset (fd.offset + i.size) = ⟨(cs'.toList.drop fd.offset).take i.size⟩ := by
                apply Array.ext'
                simp [List.extract_eq_take_drop]
              simp [Instr.field, r_under hu, hf, part, r_isAgg hd, hagg, asAgg, r_size hi, e]
            · cases h
          · rename_i hagg
            rw [List.getElem?_eq_some_iff] at h
            obtain ⟨hi, rfl⟩ := h
            have hi2 : fd.offset < cs'.toList.length := by rw [← hl.1]; exact hi
            refine ⟨cs'.toList[fd.offset], ?_, hl.2 _ hi hi2⟩
            have hi3 : fd.offset < cs'.size := by simpa using hi2
            simp [Instr.field, r_under hu, hf, part, r_isAgg hd, hagg, asAgg, hi3]
        · cases h
      · cases h
    · cases h
  · cases h

end Go.Ev
