/- Operations: build, buildSlice, makeSlice, slices, len, conversions, functions as values. -/
import Derived.Test.YtgnbcaebopajoaaGreatDoorEvOps
namespace Go.Ev
open Go.RowKit

/-! ### fill -/
def fillL (place : Nat → Option (Nat × Nat)) (cells : List Value) : List (Nat × Value) → Option (List Value)
  | [] => some cells
  | (i, v) :: rest =>
    match place i with
    | none => none
    | some (off, size) =>
      let cs := v.cells.toList
      if cs.length = size ∧ off + cs.length ≤ cells.length then fillL place (splice cells off cs) rest else none

theorem foldl_splice : ∀ (cs : List Value) (off k : Nat) (A : Array Value), off + k + cs.length ≤ A.size →
    ((cs.zipIdx k).foldl (fun (a : Array Value) (x : Value × Nat) => a.setIfInBounds (off + x.2) x.1) A).toList = splice A.toList (off + k) cs := by
  intro cs
  induction cs with
  | nil => intro off k A _; cases h : A.toList <;> simp [splice, h]
  | cons c cs ih =>
    intro off k A hA
    simp only [List.zipIdx_cons, List.foldl_cons]
    rw [ih off (k + 1) _ (by simp at hA ⊢; omega)]
    apply List.ext_getElem?
    intro i
    rw [splice_getElem? _ _ _ _ (by simp at hA ⊢; omega), splice_getElem? _ _ _ _ (by simp at hA ⊢; omega)]
    simp only [Array.toList_setIfInBounds, List.getElem?_set, List.length_cons, Array.length_toList]
    by_cases hi : i = off + k
    · subst hi
      simp only [List.length_cons] at hA
      rw [if_neg (by omega), if_pos (by omega), if_pos (by omega), if_pos (by omega)]
      simp
    · by_cases hin : off + (k + 1) ≤ i ∧ i < off + (k + 1) + cs.length
      · rw [if_pos hin, if_pos (by omega)]
        obtain ⟨j, rfl⟩ : ∃ j, i = off + k + (j + 1) := ⟨i - (off + k) - 1, by omega⟩
        have a1 : off + k + (j + 1) - (off + (k + 1)) = j := by omega
        have a2 : off + k + (j + 1) - (off + k) = j + 1 := by omega
        rw [a1, a2]; simp
      · rw [if_neg hin, if_neg (Ne.symm hi)]
        rw [if_neg (by omega)]

def PRel (φ : Phi) : List (Nat × Value) → List (Nat × Value) → Prop
  | [], [] => True
  | (i, v) :: r, (j, u) :: s => i = j ∧ VRel φ v u ∧ PRel φ r s
  | _, _ => False

theorem splice_rel {φ : Phi} : ∀ {cs cs' : List Value} {o : Nat} {vs vs' : List Value}, LRel φ cs cs' → LRel φ vs vs' → o + vs.length ≤ cs.length → LRel φ (splice cs o vs) (splice cs' o vs') := by
  intro cs cs' o vs vs' h k hle
  refine ⟨by rw [splice_length, splice_length, h.1], fun i h1 h2 => ?_⟩
  have ea := splice_getElem? cs o vs i hle
  have eb := splice_getElem? cs' o vs' i (by rw [← h.1, ← k.1]; exact hle)
  rw [List.getElem?_eq_getElem h1] at ea
  rw [List.getElem?_eq_getElem h2] at eb
  rw [splice_length] at h1 h2
  by_cases hin : o ≤ i ∧ i < o + vs.length
  · rw [if_pos hin] at ea
    rw [if_pos (by rw [← k.1]; exact hin)] at eb
    have j1 : i - o < vs.length := by omega
    have j2 : i - o < vs'.length := by rw [← k.1]; exact j1
    rw [List.getElem?_eq_getElem j1] at ea
    rw [List.getElem?_eq_getElem j2] at eb
    injection ea with ea
    injection eb with eb
    rw [ea, eb]
    exact k.2 _ j1 j2
  · rw [if_neg hin, List.getElem?_eq_getElem h1] at ea
    rw [if_neg (by rw [← k.1]; exact hin), List.getElem?_eq_getElem h2] at eb
    injection ea with ea
    injection eb with eb
    rw [ea, eb]
    exact h.2 _ h1 h2

theorem fill_sound {φ : Phi} {place : Nat → Option (Nat × Nat)} : ∀ {parts parts' : List (Nat × Value)} {cells r : List Value} {A : Array Value}, PRel φ parts parts' → LRel φ cells A.toList →
    fillL place cells parts = some r → ∃ R, Instr.fill place A parts' = some R ∧ LRel φ r R.toList := by
  intro parts
  induction parts with
  | nil =>
    intro parts' cells r A hp hc h
    cases parts' with
    | nil => injection h with h; subst h; exact ⟨A, rfl, hc⟩
    | cons x y => cases hp
  | cons p parts ih =>
    intro parts' cells r A hp hc h
    obtain ⟨i, v⟩ := p
    cases parts' with
    | nil => cases hp
    | cons q parts' =>
      obtain ⟨j, u⟩ := q
      obtain ⟨rfl, hv, hp⟩ := hp
      simp only [fillL] at h
      simp only [Instr.fill]
      cases hpl : place i with
      | none => rw [hpl] at h; cases h
      | some x =>
        obtain ⟨off, size⟩ := x
        rw [hpl] at h
        dsimp only at h ⊢
        split at h
        · rename_i hh
          obtain ⟨h1, h2⟩ := hh
          have hl := LRel.cells hv
          have hs1 : u.cells.size = size := by rw [← h1, hl.1]; simp
          have hs2 : off + u.cells.size ≤ A.size := by
            have := hc.1; have := hl.1; simp at *; omega
          rw [if_neg (by simp [hs1]; omega)]
          refine ih hp ?_ h
          have e : (u.cells.zipIdx.foldl (fun (cs : Array Value) (x : Value × Nat) => cs.setIfInBounds (off + x.2) x.1) A).toList = splice A.toList off u.cells.toList := by
            rw [← Array.foldl_toList, Array.toList_zipIdx]
            simpa using foldl_splice u.cells.toList off 0 A (by simpa using hs2)
          have e2 := splice_rel hc hl h2
          rw [← e] at e2
          exact e2
        · cases h

/-! ### build, buildSlice -/
def placesL (P : Program) : List Field → Option (List (Nat × Nat))
  | [] => some []
  | f :: r => match P.info? f.type, placesL P r with
    | some i, some l => some ((f.offset, i.size) :: l)
    | _, _ => none

theorem places_run {P : Program} {w : World} : ∀ {fs : List Field} {l : List (Nat × Nat)}, placesL P fs = some l →
    (fs.mapM fun f => do pure (f.offset, ← sizeOf f.type) : Sem (List (Nat × Nat))).run P w = .ok l w := by
  intro fs
  induction fs with
  | nil => intro l h; injection h with h; subst h; rfl
  | cons f r ih =>
    intro l h
    simp only [placesL] at h
    split at h
    · rename_i i l' hi hl
      injection h with h
      subst h
      have ihh := ih hl
      rw [List.mapM_cons]
      simp only [Sem.run_bind, r_size hi, Result.andThen_ok, Sem.run_pure, ihh]
    · cases h

def buildOp (P : Program) (t : TypeId) (parts : List (Nat × Value)) : Option Value :=
  match P.info? t with
  | some i =>
    match i.zero with
    | some z =>
      let l := z.cells.toList
      if lits l then
        match P.underlying t with
        | some (.struct fields) =>
          match placesL P fields.toList with
          | some pl => (fillL (pl[·]?) l parts).map fun l => .agg ⟨l⟩
          | none => none
        | some (.array _ elem) =>
          match P.info? elem with
          | some ie => (fillL (fun k => some (k * ie.size, ie.size)) l parts).map fun l => .agg ⟨l⟩
          | none => none
        | _ => none
      else none
    | none => none
  | none => none

theorem build_sound {P : Program} {φ : Phi} {w : World} {t : TypeId} {parts : List (Nat × Value)} {parts' : Array (Nat × Value)} {v : Value} (hp : PRel φ parts parts'.toList) (h : buildOp P t parts = some v) :
    ∃ v', (Instr.build t parts').run P w = .ok v' w ∧ VRel φ v v' := by
  unfold buildOp at h
  split at h
  · rename_i i hi
    split at h
    · rename_i z hz
      dsimp only at h
      split at h
      · rename_i hl
        split at h
        · rename_i fields hu
          split at h
          · rename_i pl hpl
            simp only [Option.map_eq_some_iff] at h
            obtain ⟨r, hr, rfl⟩ := h
            obtain ⟨R, hR, hrel⟩ := fill_sound hp (lits_lrel hl) hr
            refine ⟨.agg R, ?_, by have := hrel.agg; simpa using this⟩
            have hpr := places_run (w := w) hpl
            have hm : (fields.mapM fun f => do pure (f.offset, ← sizeOf f.type) : Sem (Array (Nat × Nat))).run P w = .ok pl.toArray w := by
              rw [Array.mapM_eq_mapM_toList]
              rw [Sem.run_map, hpr]
              rfl
            simp only [Instr.build, Sem.run_bind, r_zero hi hz, Result.andThen_ok, r_under hu, hm]
            simp [hR]
          · cases h
        · rename_i elem hu
          split at h
          · rename_i ie hie
            simp only [Option.map_eq_some_iff] at h
            obtain ⟨r, hr, rfl⟩ := h
            obtain ⟨R, hR, hrel⟩ := fill_sound hp (lits_lrel hl) hr
            refine ⟨.agg R, ?_, by have := hrel.agg; simpa using this⟩
            simp only [Instr.build, Sem.run_bind, r_zero hi hz, Result.andThen_ok, r_under hu, r_size hie]
            simp [hR]
          · cases h
        · cases h
      · cases h
    · cases h
  · cases h

/-- So many cells, the zero's own again and again. -/
def zeros (z : List Value) : Nat → List Value
  | 0 => []
  | n + 1 => z ++ zeros z n

theorem zeros_length (z : List Value) (n : Nat) : (zeros z n).length = n * z.length := by
  induction n with
  | zero => simp [zeros]
  | succ n ih => simp [zeros, ih, Nat.succ_mul]; omega

theorem zeros_get (z : List Value) (hz : z.length ≠ 0) : ∀ (n i : Nat) (h : i < (zeros z n).length), (zeros z n)[i] = z[i % z.length]'(Nat.mod_lt _ (by omega)) := by
  intro n
  induction n with
  | zero => intro i h; simp [zeros] at h
  | succ n ih =>
    intro i h
    by_cases hi : i < z.length
    · have e : i % z.length = i := Nat.mod_eq_of_lt hi
      simp only [zeros, e, List.getElem_append_left hi]
    · have e : i % z.length = (i - z.length) % z.length := by rw [Nat.mod_eq_sub_mod (by omega)]
      simp only [zeros]
      rw [List.getElem_append_right (by omega)]
      rw [ih]
      simp only [e]

theorem range_map_zeros (z : Array Value) (k n : Nat) (hk : k = n * z.size) (hz : z.size ≠ 0) : ((Array.range k).map (fun i => z[i % z.size]!)).toList = zeros z.toList n := by
  subst hk
  apply List.ext_getElem
  · simp [zeros_length]
  · intro i h1 h2
    have hi : i % z.size < z.size := Nat.mod_lt _ (by omega)
    rw [zeros_get z.toList (by simpa using hz) n i h2]
    simp [hi]

def buildSliceOp (P : Program) (Ω : Om) (t : TypeId) (len : Nat) (parts : List (Nat × Value)) : Option (Value × Om) :=
  match P.underlying t with
  | some (.slice elem) =>
    match P.info? elem with
    | some i =>
      match i.zero with
      | some z =>
        let l := z.cells.toList
        if lits l ∧ l.length = i.size ∧ i.size ≠ 0 ∧ len * i.size ≤ 1000000 ∧ len < unk then
          match fillL (fun k => some (k * i.size, i.size)) (zeros l len) parts with
          | some cs => fN Ω.next fun b => if b < Tr.most then some (.slice (some ⟨b, 0, none⟩) len len, newRow Ω elem cs none) else none
          | none => none
        else none
      | none => none
    | none => none
  | _ => none

theorem zeros_lits {z : List Value} (h : lits z = true) : ∀ n, lits (zeros z n) = true := by
  intro n
  induction n with
  | zero => rfl
  | succ n ih => unfold lits at *; simp [zeros, List.all_append, h, ih]

theorem newRow_sound {P : Program} {φ base Ω w} (hr : HRel φ base Ω w) (hlim : Ω.next < Tr.most) {t : TypeId} {cs : List Value} {A : Array Value} (hv : LRel φ cs A.toList) (C : Nat) :
    ∃ φ' w', (Go.newRow t A).run P w = .ok ⟨w.heap.size, 0, none⟩ w' ∧ HRel φ' base (newRow Ω t cs none) w' ∧ Stp φ Ω w φ' (newRow Ω t cs none) w' ∧ φ' Ω.next = some (w.heap.size, C) := by
  let w' : World := { w with heap := w.heap.push (.cells A t) }
  obtain ⟨h1, h2, h3⟩ := new_sound hr hlim t cs none C A (0, 0) w' rfl rfl rfl rfl (by intro i _; simp) (fun i h => ⟨by have := hv.1; simp at this; omega, by
    have := hv.2 i h (by have := hv.1; omega)
    simpa using this⟩) (fun k h => by cases h)
  exact ⟨_, w', by simp [Go.newRow, w'], h1, h2, h3⟩

theorem buildSlice_sound {P : Program} {φ base Ω w} (hr : HRel φ base Ω w) {t : TypeId} {len : Nat} {parts : List (Nat × Value)} {parts' : Array (Nat × Value)} {v : Value} {Ω' : Om} (hp : PRel φ parts parts'.toList)
    (h : buildSliceOp P Ω t len parts = some (v, Ω')) :
    ∃ φ' w' v', (Instr.buildSlice t len parts').run P w = .ok v' w' ∧ VRel φ' v v' ∧ HRel φ' base Ω' w' ∧ Stp φ Ω w φ' Ω' w' := by
  unfold buildSliceOp at h
  split at h
  · rename_i elem hu
    split at h
    · rename_i i hi
      split at h
      · rename_i z hz
        dsimp only at h
        split at h
        · rename_i hh
          obtain ⟨hl, hlen, hsz, hmax, hunk⟩ := hh
          split at h
          · rename_i cs hcs
            rw [fN_eq] at h
            split at h
            · rename_i hlim
              injection h with h
              injection h with ha hb
              subst ha hb
              have hzs : z.cells.size = i.size := by simpa using hlen
              have e := range_map_zeros z.cells (len * i.size) len (by rw [hzs]) (by rw [hzs]; exact hsz)
              obtain ⟨R, hR, hrel⟩ := fill_sound (A := (Array.range (len * i.size)).map (fun i => z.cells[i % z.cells.size]!)) hp (by rw [e]; exact lits_lrel (zeros_lits hl len)) hcs
              obtain ⟨φ', w', h1, h2, h3, h4⟩ := newRow_sound (P := P) hr hlim (t := elem) hrel len
              refine ⟨φ', w', .slice (some ⟨w.heap.size, 0, none⟩) len len, ?_, .slice 0 len len h4 hunk, h2, h3⟩
              have hbig : ¬ (len * i.size > 2 ^ 24) := by
                have : (2:Nat) ^ 24 = 16777216 := by decide
                omega
              unfold Instr.buildSlice
              rw [Sem.run_bind, r_under hu]
              simp only [Result.andThen_ok]
              rw [Sem.run_bind, r_size hi]
              simp only [Result.andThen_ok]
              rw [if_neg hbig]
              by_cases h0 : len * i.size = 0
              · rw [h0] at hR ⊢
                have er : Array.range 0 = #[] := rfl
                simp only [er, Array.map_empty] at hR
                simp [er, hR, h1]
              · simp [h0, r_zero hi hz, hR, h1]
            · cases h
          · cases h
        · cases h
      · cases h
    · cases h
  · cases h

end Go.Ev
