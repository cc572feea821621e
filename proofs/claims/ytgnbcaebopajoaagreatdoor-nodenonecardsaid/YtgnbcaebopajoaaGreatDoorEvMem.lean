/- Writing and making memory on the abstract heap. -/
import Derived.Test.YtgnbcaebopajoaaGreatDoorEvRel
namespace Go.Ev
open Go.RowKit

theorem run_loadCellsFrom (P : Program) (w : World) (B o : Nat) : ∀ (l : List Value) (i : Nat) (acc : Array Value), (∀ j (hj : j < l.length), w.cell? ⟨B, o + i + j, none⟩ = some l[j]) →
    (loadCellsFrom ⟨B, o, none⟩ i l.length acc).run P w = .ok (acc ++ l.toArray) w := by
  intro l
  induction l with
  | nil => intro i acc h; simp [loadCellsFrom]
  | cons v l ih =>
    intro i acc h
    have h0 := h 0 (by simp)
    simp only [List.length_cons, loadCellsFrom, Sem.run_bind, run_load, add_plain]
    simp only [Nat.add_zero, List.getElem_cons_zero] at h0
    rw [h0]
    simp only [Result.andThen_ok]
    rw [ih (i + 1) (acc.push v) (fun j hj => by have := h (j + 1) (by simpa using hj); simpa [Nat.add_assoc, Nat.add_comm, Nat.add_left_comm] using this)]
    simp

theorem run_loadCells' (P : Program) (w : World) (B o : Nat) (l : List Value) (h : ∀ j (hj : j < l.length), w.cell? ⟨B, o + j, none⟩ = some l[j]) :
    (loadCells ⟨B, o, none⟩ l.length).run P w = .ok l.toArray w := by
  unfold loadCells
  rw [run_loadCellsFrom P w B o l 0 #[] (by simpa using h)]
  simp

/-! ### Writing -/
def splice : List Value → Nat → List Value → List Value
  | cs, _, [] => cs
  | [], _, _ :: _ => []
  | _ :: cs, 0, v :: vs => v :: splice cs 0 vs
  | c :: cs, o + 1, v :: vs => c :: splice cs o (v :: vs)

theorem splice_length : ∀ (cs : List Value) (o : Nat) (vs : List Value), (splice cs o vs).length = cs.length
  | cs, _, [] => by cases cs <;> simp [splice]
  | [], _, _ :: _ => by simp [splice]
  | _ :: cs, 0, v :: vs => by simp [splice, splice_length cs 0 vs]
  | c :: cs, o + 1, v :: vs => by simp [splice, splice_length cs o (v :: vs)]

theorem splice_getElem? : ∀ (cs : List Value) (o : Nat) (vs : List Value) (i : Nat), o + vs.length ≤ cs.length →
    (splice cs o vs)[i]? = if o ≤ i ∧ i < o + vs.length then vs[i - o]? else cs[i]?
  | cs, o, [], i, _ => by
    have h : ¬ (o ≤ i ∧ i < o + ([] : List Value).length) := by simp
    rw [if_neg h]
    cases cs <;> rfl
  | [], _, _ :: _, _, h => by simp at h
  | c :: cs, 0, v :: vs, i, h => by
    cases i with
    | zero => simp [splice]
    | succ i =>
      simp only [splice, List.getElem?_cons_succ]
      rw [splice_getElem? cs 0 vs i (by simp at h ⊢; omega)]
      simp
  | c :: cs, o + 1, v :: vs, i, h => by
    cases i with
    | zero => simp [splice]
    | succ i =>
      simp only [splice, List.getElem?_cons_succ]
      rw [splice_getElem? cs o (v :: vs) i (by simp at h ⊢; omega)]
      have e : (o ≤ i ∧ i < o + (v :: vs).length) ↔ (o + 1 ≤ i + 1 ∧ i + 1 < o + 1 + (v :: vs).length) := by omega
      simp only [e, Nat.add_sub_add_right]

def wrCells (Ω : Om) (b o : Nat) (vs : List Value) : Option Om :=
  match Ω.h.get b with
  | some (.row e cs false g) =>
    if o + vs.length ≤ cs.length then
      if vs.all (·.oneCell') then some { Ω with h := Ω.h.set b (some (.row e (splice cs o vs) false g)) } else none
    else none
  | _ => none

/-- What storing a run of cells leaves of the world. -/
structure Put (w : World) (B o : Nat) (CS : Array Value) (e : TypeId) (fz : Nat × Nat) (vs : List Value) (w' : World) : Prop where
  size : w'.heap.size = w.heap.size
  tape : w'.tape = w.tape
  os : w'.os = w.os
  output : w'.output = w.output
  other : ∀ B', B' ≠ B → w'.heap[B']? = w.heap[B']?
  here : ∃ CS' : Array Value, w'.heap[B]? = some (.cells CS' e fz) ∧ CS'.size = CS.size ∧ ∀ i, CS'[i]? = if o ≤ i ∧ i < o + vs.length then vs[i - o]? else CS[i]?

theorem run_storeCells (P : Program) (B o : Nat) (e : TypeId) (fz : Nat × Nat) : ∀ (vs : List Value) (i : Nat) (w : World) (CS : Array Value), w.heap[B]? = some (.cells CS e fz) →
    (∀ k, k < CS.size → ¬ (fz.1 ≤ k ∧ k < fz.2)) → o + i + vs.length ≤ CS.size → (∀ v ∈ vs, v.oneCell' = true) →
    ∃ w', (storeCells ⟨B, o, none⟩ vs i).run P w = .ok () w' ∧ Put w B (o + i) CS e fz vs w' := by
  intro vs
  induction vs with
  | nil =>
    intro i w CS h _ _ _
    refine ⟨w, rfl, ⟨rfl, rfl, rfl, rfl, fun _ _ => rfl, CS, h, rfl, fun k => ?_⟩⟩
    have h : ¬ (o + i ≤ k ∧ k < o + i + ([] : List Value).length) := by simp
    rw [if_neg h]
  | cons v vs ih =>
    intro i w CS h hfz hsz h1
    have hlt : o + i < CS.size := by simp at hsz; omega
    have hv : v.oneCell' = true := h1 v (by simp)
    have hc : w.cell? ⟨B, o + i, none⟩ = some CS[o + i] := by rw [cell_at h]; simp [hlt]
    have hf : w.frozen? ⟨B, o + i, none⟩ = false := by
      unfold World.frozen?
      simp only [h]
      have := hfz _ hlt
      obtain ⟨lo, hi⟩ := fz
      simp only at this ⊢
      simp only [Bool.and_eq_false_iff, decide_eq_false_iff_not]
      omega
    have hw1 : (w.setCell ⟨B, o + i, none⟩ v).heap[B]? = some (.cells (CS.setIfInBounds (o + i) v) e fz) := by
      simp [World.setCell, Array.getElem?_modify, h]
    obtain ⟨w', hrun, hp⟩ := ih (i + 1) (w.setCell ⟨B, o + i, none⟩ v) (CS.setIfInBounds (o + i) v) hw1 (by simpa using hfz) (by simp at hsz ⊢; omega) (fun u hu => h1 u (by simp [hu]))
    refine ⟨w', ?_, ?_⟩
    · simp only [storeCells, Sem.run_bind, add_plain]
      rw [run_store P w _ v _ hv, hc]
      simp only [hf, Bool.false_eq_true, if_false, Result.andThen_ok]
      exact hrun
    · obtain ⟨p1, p2, p3, p4, p5, CS', q1, q2, q3⟩ := hp
      refine ⟨by rw [p1]; simp [World.setCell], p2, p3, p4, fun B' hB' => ?_, CS', q1, by simpa using q2, fun k => ?_⟩
      · rw [p5 B' hB']
        simp only [World.setCell, Array.getElem?_modify]
        rw [if_neg (Ne.symm hB')]
      · rw [q3 k]
        by_cases hk : k = o + i
        · subst hk
          have : ¬ (o + (i + 1) ≤ o + i ∧ o + i < o + (i + 1) + vs.length) := by omega
          rw [if_neg this, if_pos (by simp)]
          simp [hlt]
        · have e1 : (CS.setIfInBounds (o + i) v)[k]? = CS[k]? := by
            rw [Array.getElem?_setIfInBounds]; rw [if_neg (Ne.symm hk)]
          rw [e1]
          by_cases hin : o + (i + 1) ≤ k ∧ k < o + (i + 1) + vs.length
          · rw [if_pos hin, if_pos (by simp; omega)]
            obtain ⟨j, rfl⟩ : ∃ j, k = o + i + (j + 1) := ⟨k - (o + i) - 1, by omega⟩
            have a1 : o + i + (j + 1) - (o + (i + 1)) = j := by omega
            have a2 : o + i + (j + 1) - (o + i) = j + 1 := by omega
            rw [a1, a2]; simp
          · rw [if_neg hin, if_neg (by simp; omega)]

theorem get_set_lt {Ω : Om} {b : Nat} {x : Option Blk} {φ base w} (hr : HRel φ base Ω w) {B C} (hb : φ b = some (B, C)) (m : Nat) : (Ω.h.set b x).get m = if m = b then x else Ω.h.get m := by
  refine Tr.get_set _ _ _ _ ?_
  rcases Nat.lt_or_ge b Ω.next with h | h
  · exact Nat.lt_of_lt_of_le h hr.lim
  · rw [hr.fresh b h] at hb; cases hb

theorem wr_sound (P : Program) {φ base Ω w} (hr : HRel φ base Ω w) {b B C o : Nat} {vs vs' : List Value} {Ω' : Om} (hb : φ b = some (B, C)) (h : wrCells Ω b o vs = some Ω') (hv : LRel φ vs vs') :
    ∃ w', (storeCells ⟨B, o, none⟩ vs').run P w = .ok () w' ∧ HRel φ base Ω' w' ∧ Stp φ Ω w φ Ω' w' := by
  unfold wrCells at h
  split at h
  · rename_i elem cs g hg
    split at h
    · rename_i hlen
      split at h
      · rename_i hone
        injection h with h
        obtain ⟨B', C', CS, fz, ra⟩ := hr.row _ _ _ _ _ hg
        have e := ra.phi
        rw [hb] at e
        injection e with e
        injection e with e1 e2
        subst e1
        have hle : cs.length ≤ CS.size := by
          rcases Nat.eq_zero_or_pos cs.length with h0 | h0
          · omega
          · obtain ⟨h', _⟩ := ra.vals (cs.length - 1) (by omega)
            omega
        have hone' : ∀ v ∈ vs', v.oneCell' = true := by
          intro v hv'
          obtain ⟨i, hi, rfl⟩ := List.getElem_of_mem hv'
          have hi' : i < vs.length := by rw [hv.1]; exact hi
          rw [(hv.2 i hi' hi).oneCell]
          have := List.all_eq_true.1 hone vs[i] (List.getElem_mem hi')
          exact this
        obtain ⟨w', hrun, hp⟩ := run_storeCells P B o elem fz vs' 0 w CS ra.heap ra.free (by rw [← hv.1]; omega) hone'
        refine ⟨w', hrun, ?_⟩
        obtain ⟨p1, p2, p3, p4, p5, CS', q1, q2, q3⟩ := hp
        simp only [Nat.add_zero] at q3
        have hget : ∀ m, Ω'.h.get m = if m = b then some (.row elem (splice cs o vs) false g) else Ω.h.get m := by
          intro m; rw [← h]; exact get_set_lt hr hb m
        have hnext : Ω'.next = Ω.next := by rw [← h]
        refine ⟨⟨by rw [hnext]; exact hr.fresh, by rw [hnext]; exact hr.lim, by rw [← h]; exact hr.glob, by rw [p1]; exact hr.size, by rw [p1]; exact hr.bound, ?_, ?_, ?_⟩, ⟨Ext.refl φ, fun _ _ => rfl, by rw [hnext]; exact Nat.le_refl _, by rw [p1]; exact Nat.le_refl _, p2, p3, p4, ?_⟩⟩
        · intro b2 x2 h2
          rw [hget] at h2
          by_cases hbb : b2 = b
          · rw [if_pos hbb] at h2
            injection h2 with h2
            subst hbb h2
            refine ⟨B, C', CS', fz, ra.phi, q1, by rw [q2]; exact ra.free, ?_, fun _ => ra.own rfl, fun k hk => by rw [q2]; exact ra.grown k hk⟩
            intro i hi
            have hi2 : i < cs.length := by rw [splice_length] at hi; exact hi
            obtain ⟨hiC, hrel⟩ := ra.vals i hi2
            refine ⟨by rw [q2]; exact hiC, ?_⟩
            have ea := splice_getElem? cs o vs i hlen
            have eb := q3 i
            rw [List.getElem?_eq_getElem hi] at ea
            rw [Array.getElem?_eq_getElem (by rw [q2]; exact hiC)] at eb
            by_cases hin : o ≤ i ∧ i < o + vs.length
            · rw [if_pos hin] at ea
              rw [if_pos (by rw [← hv.1]; exact hin)] at eb
              have j1 : i - o < vs.length := by omega
              have j2 : i - o < vs'.length := by rw [← hv.1]; exact j1
              rw [List.getElem?_eq_getElem j1] at ea
              rw [List.getElem?_eq_getElem j2] at eb
              injection ea with ea
              injection eb with eb
              rw [ea, eb]
              exact hv.2 _ j1 j2
            · rw [if_neg hin] at ea
              rw [if_neg (by rw [← hv.1]; exact hin)] at eb
              rw [List.getElem?_eq_getElem hi2] at ea
              rw [Array.getElem?_eq_getElem hiC] at eb
              injection ea with ea
              injection eb with eb
              rw [ea, eb]
              exact hrel
          · rw [if_neg hbb] at h2
            refine (hr.obj _ _ h2).move (Ext.refl φ) fun B2 C2 e2 => p5 _ ?_
            intro he
            subst he
            exact hbb (hr.inj _ _ _ _ _ _ _ h2 hg e2 ra.phi)
        · intro b2 x2 B2 C2 h2 hx2 e2
          rw [hget] at h2
          by_cases hbb : b2 = b
          · rw [if_pos hbb] at h2; injection h2 with h2; subst h2; cases hx2
          · rw [if_neg hbb] at h2; exact hr.glo _ _ _ _ h2 hx2 e2
        · intro b1 b2 x1 x2 B1 C1 C2 h1 h2 e1 e2
          rw [hget] at h1 h2
          have f1 : ∃ y, Ω.h.get b1 = some y := by
            by_cases hbb : b1 = b
            · exact ⟨_, hbb ▸ hg⟩
            · rw [if_neg hbb] at h1; exact ⟨_, h1⟩
          have f2 : ∃ y, Ω.h.get b2 = some y := by
            by_cases hbb : b2 = b
            · exact ⟨_, hbb ▸ hg⟩
            · rw [if_neg hbb] at h2; exact ⟨_, h2⟩
          obtain ⟨y1, f1⟩ := f1
          obtain ⟨y2, f2⟩ := f2
          exact hr.inj _ _ _ _ _ _ _ f1 f2 e1 e2
        · intro B1 hB1 hi
          have hne : B1 ≠ B := by
            intro he
            subst he
            exact hi ⟨b, C', _, hg, rfl, ra.phi⟩
          refine ⟨p5 _ hne, ?_⟩
          rintro ⟨b2, C2, x2, h2, hx2, e2⟩
          rw [hget] at h2
          by_cases hbb : b2 = b
          · subst hbb
            rw [hb] at e2
            injection e2 with e2
            injection e2 with e3 e4
            exact hne e3.symm
          · rw [if_neg hbb] at h2
            exact hi ⟨b2, C2, x2, h2, hx2, e2⟩
      · cases h
    · cases h
  · cases h

/-! ### New rows -/
def newRow (Ω : Om) (e : TypeId) (cs : List Value) (g : Option Nat) : Om := ⟨Ω.gl, Ω.next + 1, Ω.h.set Ω.next (some (.row e cs false g))⟩

def upd (φ : Phi) (b : Nat) (x : Nat × Nat) : Phi := fun m => if m = b then some x else φ m

theorem upd_ext {φ : Phi} {b : Nat} {x : Nat × Nat} (h : φ b = none) : Ext φ (upd φ b x) := by
  intro m y hm
  unfold upd
  by_cases e : m = b
  · subst e; rw [h] at hm; cases hm
  · rw [if_neg e]; exact hm

theorem new_sound {φ base Ω w} (hr : HRel φ base Ω w) (hlim : Ω.next < Tr.most) (e : TypeId) (cs : List Value) (g : Option Nat) (C : Nat) (CS : Array Value) (fz : Nat × Nat) (w' : World)
    (hw : w'.heap = w.heap.push (.cells CS e fz)) (ht : w'.tape = w.tape) (ho : w'.os = w.os) (hou : w'.output = w.output)
    (hfz : ∀ i, i < CS.size → ¬ (fz.1 ≤ i ∧ i < fz.2)) (hl : ∀ i (h : i < cs.length), ∃ h' : i < CS.size, VRel φ cs[i] CS[i]) (hg : ∀ k, g = some k → CS.size = C * k) :
    HRel (upd φ Ω.next (w.heap.size, C)) base (newRow Ω e cs g) w' ∧ Stp φ Ω w (upd φ Ω.next (w.heap.size, C)) (newRow Ω e cs g) w' ∧ upd φ Ω.next (w.heap.size, C) Ω.next = some (w.heap.size, C) := by
  have hf := hr.fresh Ω.next (Nat.le_refl _)
  have hext : Ext φ (upd φ Ω.next (w.heap.size, C)) := upd_ext hf
  have hget : ∀ m, (newRow Ω e cs g).h.get m = if m = Ω.next then some (.row e cs false g) else Ω.h.get m := fun m => Tr.get_set _ _ _ _ hlim
  have hsz : w'.heap.size = w.heap.size + 1 := by rw [hw]; simp
  have hold : ∀ k, k < w.heap.size → w'.heap[k]? = w.heap[k]? := by
    intro k hk
    rw [hw, Array.getElem?_push, if_neg (by omega)]
  refine ⟨⟨?_, ?_, fun g hg => hext _ _ (hr.glob g hg), ?_, ?_, ?_, ?_, ?_⟩, ⟨hext, fun b hb => by unfold upd; rw [if_neg (by omega)], Nat.le_succ _, by omega, ht, ho, hou, ?_⟩, by simp [upd]⟩
  · intro b hb
    have hb' : Ω.next + 1 ≤ b := hb
    unfold upd
    rw [if_neg (by omega)]
    exact hr.fresh b (by omega)
  · show Ω.next + 1 ≤ _
    omega
  · have := hr.size; omega
  · intro b B C' hb
    unfold upd at hb
    split at hb
    · injection hb with hb; injection hb with h1 h2; omega
    · have := hr.bound _ _ _ hb; omega
  · intro b x h2
    rw [hget] at h2
    by_cases hbb : b = Ω.next
    · rw [if_pos hbb] at h2
      injection h2 with h2
      subst hbb h2
      refine ⟨w.heap.size, C, CS, fz, by simp [upd], by rw [hw]; simp, hfz, ?_, fun _ => hr.size, hg⟩
      intro i hi
      obtain ⟨h1, h2⟩ := hl i hi
      exact ⟨h1, h2.mono hext⟩
    · rw [if_neg hbb] at h2
      exact (hr.obj _ _ h2).move hext fun B2 C2 e2 => hold _ (hr.bound _ _ _ e2)
  · intro b x B2 C2 h2 hx2 e2
    rw [hget] at h2
    by_cases hbb : b = Ω.next
    · rw [if_pos hbb] at h2; injection h2 with h2; subst h2; cases hx2
    · rw [if_neg hbb] at h2
      unfold upd at e2
      rw [if_neg hbb] at e2
      exact hr.glo _ _ _ _ h2 hx2 e2
  · intro b1 b2 x1 x2 B1 C1 C2 h1 h2 e1 e2
    rw [hget] at h1 h2
    unfold upd at e1 e2
    by_cases hb1 : b1 = Ω.next
    · by_cases hb2 : b2 = Ω.next
      · rw [hb1, hb2]
      · rw [if_pos hb1] at e1
        rw [if_neg hb2] at e2
        injection e1 with e1
        injection e1 with e3 e4
        have := hr.bound _ _ _ e2
        omega
    · by_cases hb2 : b2 = Ω.next
      · rw [if_neg hb1] at e1
        rw [if_pos hb2] at e2
        injection e2 with e2
        injection e2 with e3 e4
        have := hr.bound _ _ _ e1
        omega
      · rw [if_neg hb1] at e1 h1
        rw [if_neg hb2] at e2 h2
        exact hr.inj _ _ _ _ _ _ _ h1 h2 e1 e2
  · intro B hB hi
    refine ⟨hold B hB, ?_⟩
    rintro ⟨b, C', x2, h2, hx2, e2⟩
    rw [hget] at h2
    unfold upd at e2
    by_cases hbb : b = Ω.next
    · rw [if_pos hbb] at e2
      injection e2 with e2
      injection e2 with e3 e4
      omega
    · rw [if_neg hbb] at h2 e2
      exact hi ⟨b, C', x2, h2, hx2, e2⟩

end Go.Ev
