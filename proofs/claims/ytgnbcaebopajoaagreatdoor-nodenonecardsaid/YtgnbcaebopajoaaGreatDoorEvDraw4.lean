/- Regions that draw their order: the invariant, and the end. -/
import Derived.Test.YtgnbcaebopajoaaGreatDoorEvDraw3
namespace Go.Ev
open Go.RowKit

/-- A new variable that stands in memory, but not yet on the abstract heap. -/
structure Pend (b0 base : Nat) (Ot : Nat → Om) (rc : Nat → Rec) (w0 : World) (φ : Phi) (w : World) (p i : Nat) (B : Nat) : Prop where
  phi : φ (b0 + i) = some (B, 0)
  cells : ∃ t l CS, (rc i).Ω' = { (rc i).Ω with h := (rc i).Ω.h.set (b0 + i) (some (.row t l false none)) } ∧ w.heap[B]? = some (.cells CS t (0, 0)) ∧ LRel φ l CS.toList
  base : base ≤ B
  new : w0.heap.size ≤ B
  img : ¬ Img φ (Ot p) B

structure Inv (ds : List Deferred) (n : Nat) (ops : Array Oper) (b0 base : Nat) (Tt : Nat → Tr Value) (Ot : Nat → Om) (rc : Nat → Rec) (φ0 : Phi) (Ωs : Om) (w0 : World) (S : Nat → Bool) (a : Act) (w : World) (φ : Phi) (p : Nat) : Prop where
  closed : ∀ i o, ops[i]? = some o → S i = true → ∀ e ∈ predsOf o, S e = true
  front : ∀ j o, ops[j]? = some o → (rc j).kd.isLoud = true → (S j = true ↔ j < p)
  size : a.tmps.size = n
  tm : ∀ t, VRel φ (valS ops rc (Tt 0) S ops.size t) (a.tmps.getD t undef)
  defers : a.defers = ds
  heap : HRel φ base (Ot p) w
  pend : ∀ i o, ops[i]? = some o → (rc i).kd.isAlloc = true → S i = true → p ≤ i → ∃ B, Pend b0 base Ot rc w0 φ w p i B
  pinj : ∀ i j oi oj B, ops[i]? = some oi → ops[j]? = some oj → (rc i).kd.isAlloc = true → (rc j).kd.isAlloc = true → S i = true → S j = true → p ≤ i → p ≤ j → φ (b0 + i) = some (B, 0) → φ (b0 + j) = some (B, 0) → i = j
  notyet : ∀ i o, ops[i]? = some o → (rc i).kd.isAlloc = true → S i = false → φ (b0 + i) = none
  step : Stp φ0 Ωs w0 φ (Ot p) w
  nxt : b0 + ops.size ≤ (Ot p).next

section
variable {P : Program} {call : CallF} {n : Nat} {ops : Array Oper} {b0 base : Nat} {Tt : Nat → Tr Value} {Ot : Nat → Om} {rc : Nat → Rec} {φ0 : Phi} {Ωs : Om} {w0 : World} {ds : List Deferred}

/-- What a record says. -/
theorem rec_kinds (g : Good P call n ops b0 Tt Ot rc) {i : Nat} {o : Oper} (ho : ops[i]? = some o) :
    ((rc i).kd.isLoud = false ∧ (rc i).kd.isAlloc = false ∧ Ot (i + 1) = Ot i ∧ (rc i).w = wantedA ops (rc i).R o ∧ (((rc i).w = false ∧ (rc i).r = undef) ∨ ((rc i).w = true ∧ stillOp P (rc i).R (Ot i) o = some (rc i).r))) ∨
    ((rc i).kd.isLoud = true ∧ (rc i).kd.isAlloc = false ∧ Makes P call (rc i).R (Ot i) o (wantedA ops (rc i).R o) (rc i).r (Ot (i + 1))) ∨
    ((rc i).kd.isLoud = false ∧ (rc i).kd.isAlloc = true ∧ wantedA ops (rc i).R o = true ∧ ∃ t inf z, o.op = .alloc t ∧ P.info? t = some inf ∧ inf.zero = some z ∧ lits z.cells.toList = true ∧ (rc i).r = .pointer (some ⟨b0 + i, 0, none⟩) ∧
      (rc i).Ω = Ot i ∧ (rc i).Ω' = { (rc i).Ω with h := (rc i).Ω.h.set (b0 + i) (some (.row t z.cells.toList false none)) }) := by
  have h := g.get i o ho
  have hom := g.om i o ho
  unfold recOf at h
  dsimp only at h
  split at h
  · rename_i hw
    injection h with h
    rw [← h] at hom ⊢
    exact .inl ⟨rfl, rfl, hom.symm, hw.symm, .inl ⟨rfl, rfl⟩⟩
  · rename_i hw
    split at h
    · rename_i t hop
      simp only [Option.map_eq_some_iff] at h
      obtain ⟨x, hx, h⟩ := h
      unfold allocAt at hx
      split at hx
      · rename_i inf hinf
        split at hx
        · rename_i z hz
          dsimp only at hx
          split at hx
          · rename_i hl
            injection hx with hx
            rw [← h, ← hx]
            exact .inr (.inr ⟨rfl, rfl, hw, t, inf, z, hop, hinf, hz, hl, rfl, rfl, rfl⟩)
          · cases hx
        · cases hx
      · cases hx
    · split at h
      · rename_i v hs
        injection h with h
        rw [← h] at hom ⊢
        exact .inl ⟨rfl, rfl, hom.symm, hw.symm, .inr ⟨rfl, hs⟩⟩
      · split at h
        · rename_i v Ω' ha
          injection h with h
          rw [← h] at hom ⊢
          refine .inr (.inl ⟨rfl, rfl, ?_⟩)
          rw [← hom]
          exact .inr ⟨hw, .inl ha⟩
        · rename_i f args ha
          simp only [Option.map_eq_some_iff] at h
          obtain ⟨x, hx, h⟩ := h
          rw [← h] at hom ⊢
          refine .inr (.inl ⟨rfl, rfl, ?_⟩)
          rw [← hom]
          exact .inr ⟨hw, .inr ⟨f, args, ha, hx⟩⟩
        · cases h

theorem set_get_lt {φ w} {Ω : Om} (hr : HRel φ base Ω w) {b : Nat} (hb : b < Ω.next) (x : Option Blk) (m : Nat) : (Ω.h.set b x).get m = if m = b then x else Ω.h.get m :=
  Tr.get_set _ _ _ _ (Nat.lt_of_lt_of_le hb hr.lim)

/-- One step of the text that is not loud, its new variable (if it makes one) standing in memory. -/
theorem activate (g : Good P call n ops b0 Tt Ot rc) {S : Nat → Bool} {a : Act} {w : World} {φ : Phi} {p : Nat} (h : Inv ds n ops b0 base Tt Ot rc φ0 Ωs w0 S a w φ p) {o : Oper} (ho : ops[p]? = some o)
    (hl : (rc p).kd.isLoud = false) (hS : (rc p).kd.isAlloc = true → S p = true) : Inv ds n ops b0 base Tt Ot rc φ0 Ωs w0 S a w φ (p + 1) := by
  have hfront : ∀ j oj, ops[j]? = some oj → (rc j).kd.isLoud = true → (S j = true ↔ j < p + 1) := by
    intro j oj hj hlj
    rw [h.front j oj hj hlj]
    by_cases hjp : j = p
    · subst hjp; rw [hl] at hlj; cases hlj
    · omega
  rcases rec_kinds g ho with ⟨_, ha, hO, _, _⟩ | ⟨hl2, _, _⟩ | ⟨_, ha, hw, t, inf, z, hop, hinf, hz, hlit, hr, hOm, hOm'⟩
  · exact ⟨h.closed, hfront, h.size, h.tm, h.defers, by rw [hO]; exact h.heap, fun i oi hi hai hSi hpi => by
      obtain ⟨B, pd⟩ := h.pend i oi hi hai hSi (by omega)
      exact ⟨B, pd.phi, pd.cells, pd.base, pd.new, by rw [hO]; exact pd.img⟩,
      fun i j oi oj B hi hj hai haj hSi hSj hpi hpj => h.pinj i j oi oj B hi hj hai haj hSi hSj (by omega) (by omega), h.notyet, by rw [hO]; exact h.step, by rw [hO]; exact h.nxt⟩
  · rw [hl] at hl2; cases hl2
  · obtain ⟨B, pd⟩ := h.pend p o ho ha (hS ha) (Nat.le_refl _)
    have hom := g.om p o ho
    obtain ⟨t', l', CS, hc1, hc2, hc3⟩ := pd.cells
    have hlt : b0 + p < (Ot p).next := by
      rcases Nat.lt_or_ge (b0 + p) (Ot p).next with hx | hx
      · exact hx
      · have := h.heap.fresh _ hx; rw [pd.phi] at this; cases this
    rw [hOm] at hc1
    have hOt : Ot (p + 1) = { Ot p with h := (Ot p).h.set (b0 + p) (some (.row t' l' false none)) } := by rw [← hom, hc1]
    have hget : ∀ m, (Ot (p + 1)).h.get m = if m = b0 + p then some (.row t' l' false none) else (Ot p).h.get m := by
      intro m; rw [hOt]; exact set_get_lt h.heap hlt _ m
    have hnext : (Ot (p + 1)).next = (Ot p).next := by rw [hOt]
    have hgl : (Ot (p + 1)).gl = (Ot p).gl := by rw [hOt]
    have hfree := h.heap.free pd.base pd.img
    have himg : ∀ B', B' ≠ B → ¬ Img φ (Ot p) B' → ¬ Img φ (Ot (p + 1)) B' := by
      rintro B' hne hni ⟨b, C, x, hb, hx, hp⟩
      rw [hget] at hb
      by_cases hbb : b = b0 + p
      · subst hbb
        rw [pd.phi] at hp
        injection hp with hp
        injection hp with hp _
        exact hne hp.symm
      · rw [if_neg hbb] at hb
        exact hni ⟨b, C, x, hb, hx, hp⟩
    have heap : HRel φ base (Ot (p + 1)) w := by
      refine ⟨by rw [hnext]; exact h.heap.fresh, by rw [hnext]; exact h.heap.lim, by rw [hgl]; exact h.heap.glob, h.heap.size, h.heap.bound, ?_, ?_, ?_⟩
      · intro b x hb
        rw [hget] at hb
        by_cases hbb : b = b0 + p
        · rw [if_pos hbb] at hb
          injection hb with hb
          subst hbb hb
          refine ⟨B, 0, CS, (0, 0), pd.phi, hc2, by intro i _; simp, fun i hi => ?_, fun _ => pd.base, fun k hk => by cases hk⟩
          have hi2 : i < CS.toList.length := by rw [← hc3.1]; exact hi
          exact ⟨by simpa using hi2, by simpa using hc3.2 i hi hi2⟩
        · rw [if_neg hbb] at hb
          exact h.heap.obj _ _ hb
      · intro b x B' C hb hx hp
        rw [hget] at hb
        by_cases hbb : b = b0 + p
        · rw [if_pos hbb] at hb; injection hb with hb; subst hb; cases hx
        · rw [if_neg hbb] at hb; exact h.heap.glo _ _ _ _ hb hx hp
      · intro b1 b2 x1 x2 B' C1 C2 h1 h2 e1 e2
        rw [hget] at h1 h2
        by_cases hb1 : b1 = b0 + p
        · by_cases hb2 : b2 = b0 + p
          · rw [hb1, hb2]
          · rw [if_neg hb2] at h2
            subst hb1
            rw [pd.phi] at e1
            injection e1 with e1
            injection e1 with e3 _
            subst e3
            exact absurd e2 (hfree _ _ _ h2)
        · by_cases hb2 : b2 = b0 + p
          · rw [if_neg hb1] at h1
            subst hb2
            rw [pd.phi] at e2
            injection e2 with e2
            injection e2 with e3 _
            subst e3
            exact absurd e1 (hfree _ _ _ h1)
          · rw [if_neg hb1] at h1
            rw [if_neg hb2] at h2
            exact h.heap.inj _ _ _ _ _ _ _ h1 h2 e1 e2
    refine ⟨h.closed, hfront, h.size, h.tm, h.defers, heap, ?_, fun i j oi oj B hi hj hai haj hSi hSj hpi hpj => h.pinj i j oi oj B hi hj hai haj hSi hSj (by omega) (by omega), h.notyet, ?_, by rw [hnext]; exact h.nxt⟩
    · intro i oi hi hai hSi hpi
      obtain ⟨B', pd'⟩ := h.pend i oi hi hai hSi (by omega)
      have hne : B' ≠ B := by
        intro he
        subst he
        have := h.pinj i p oi o B' hi ho hai ha hSi (hS ha) (by omega) (Nat.le_refl _) pd'.phi pd.phi
        omega
      exact ⟨B', pd'.phi, pd'.cells, pd'.base, pd'.new, himg B' hne pd'.img⟩
    · obtain ⟨s1, s2, s3, s4, s5, s6, s7, s8⟩ := h.step
      refine ⟨s1, s2, by rw [hnext]; exact s3, s4, s5, s6, s7, fun B' hB' hni => ?_⟩
      obtain ⟨k1, k2⟩ := s8 B' hB' hni
      have := pd.new
      exact ⟨k1, himg B' (by omega) k2⟩

theorem activate_to (g : Good P call n ops b0 Tt Ot rc) {S : Nat → Bool} {a : Act} {w : World} {φ : Phi} : ∀ (d p : Nat), Inv ds n ops b0 base Tt Ot rc φ0 Ωs w0 S a w φ p → p + d ≤ ops.size →
    (∀ j, p ≤ j → j < p + d → (rc j).kd.isLoud = false ∧ ((rc j).kd.isAlloc = true → S j = true)) → Inv ds n ops b0 base Tt Ot rc φ0 Ωs w0 S a w φ (p + d) := by
  intro d
  induction d with
  | zero => intro p h _ _; exact h
  | succ d ih =>
    intro p h hle hj
    obtain ⟨h1, h2⟩ := hj p (Nat.le_refl _) (by omega)
    have ho : ops[p]? = some ops[p] := by simp [show p < ops.size by omega]
    have := ih (p + 1) (activate g h ho h1 h2) (by omega) (fun j hj1 hj2 => hj j (by omega) (by omega))
    have e : p + (d + 1) = p + 1 + d := by omega
    rw [e]; exact this

/-- An operation that is no alloc is done. -/
theorem inv_done (g : Good P call n ops b0 Tt Ot rc) {S : Nat → Bool} {a : Act} {w : World} {φ : Phi} {p q : Nat} (h : Inv ds n ops b0 base Tt Ot rc φ0 Ωs w0 S a w φ p) {i : Nat} {o : Oper} (ho : ops[i]? = some o) (hi : S i = false)
    (hr : ∀ e ∈ predsOf o, S e = true) (hal : (rc i).kd.isAlloc = false) {φ' : Phi} {v' : Value} {w' : World} (hv : VRel φ' (rc i).r v') (hh : HRel φ' base (Ot q) w') (st : Stp φ (Ot p) w φ' (Ot q) w') (hpq : p ≤ q)
    (hloud : (rc i).kd.isLoud = true → q = i + 1 ∧ p = i) (hstill : (rc i).kd.isLoud = false → q = p) : Inv ds n ops b0 base Tt Ot rc φ0 Ωs w0 (fun j => S j || Nat.beq j i) (a.put o.dst v') w' φ' q := by
  have him : i < ops.size := (Array.getElem?_eq_some_iff.1 ho).1
  have hS' : ∀ j, j ≠ i → (S j || Nat.beq j i) = S j := by
    intro j hj
    have : Nat.beq j i = false := by
      cases hb : Nat.beq j i with
      | false => rfl
      | true => exact absurd (Nat.eq_of_beq_eq_true hb) hj
    rw [this, Bool.or_false]
  have hSi : (S i || Nat.beq i i) = true := by simp
  have hput := g.put i o ho
  have hcells : ∀ {B : Nat}, B < w.heap.size → ¬ Img φ (Ot p) B → w'.heap[B]? = w.heap[B]? ∧ ¬ Img φ' (Ot q) B := fun hB hn => st.keep _ hB hn
  have hidlt : ∀ j oj, ops[j]? = some oj → b0 + j < (Ot p).next := by
    intro j oj hj
    have := (Array.getElem?_eq_some_iff.1 hj).1
    have := h.nxt
    omega
  refine ⟨?_, ?_, ?_, ?_, by rw [put_defers]; exact h.defers, hh, ?_, ?_, ?_, h.step.trans st, Nat.le_trans h.nxt st.nxt⟩
  · intro j oj hj hSj e he
    by_cases hji : j = i
    · subst hji
      rw [ho] at hj
      injection hj with hj
      subst hj
      have := hr e he
      simp [this]
    · simp only [hS' j hji] at hSj
      have := h.closed j oj hj hSj e he
      simp [this]
  · intro j oj hj hlj
    by_cases hji : j = i
    · subst hji
      obtain ⟨h1, h2⟩ := hloud hlj
      simp only [hSi, true_iff]
      omega
    · simp only [hS' j hji]
      rw [h.front j oj hj hlj]
      cases hl : (rc i).kd.isLoud with
      | true => obtain ⟨h1, h2⟩ := hloud hl; omega
      | false => rw [hstill hl]
  · have hs := h.size
    cases hd : o.dst with
    | none => exact hs
    | some d => simp [Act.put, hs]
  · intro t
    rw [val_write g h.closed ho hi t ops.size (Nat.le_refl _)]
    unfold putT at hput
    by_cases hd : o.dst = some t
    · rw [if_pos ⟨him, hd⟩]
      rw [hd] at hput ⊢
      simp only at hput
      split at hput
      · rename_i htn
        have : t < a.tmps.size := by rw [h.size]; exact htn
        have e : (a.put (some t) v').tmps.getD t undef = v' := by simp [Act.put, Array.getD_eq_getD_getElem?, this]
        rw [e]; exact hv
      · cases hput
    · rw [if_neg (by simp [hd])]
      have e : (a.put o.dst v').tmps.getD t undef = a.tmps.getD t undef := by
        cases hd2 : o.dst with
        | none => rfl
        | some d =>
          have hne : t ≠ d := by intro he; subst he; exact hd hd2
          simp [Act.put, Array.getD_eq_getD_getElem?, Ne.symm hne]
      rw [e]
      exact (h.tm t).mono st.ext
  · intro j oj hj haj hSj hqj
    have hji : j ≠ i := by intro he; subst he; rw [hal] at haj; cases haj
    simp only [hS' j hji] at hSj
    obtain ⟨B, pd⟩ := h.pend j oj hj haj hSj (by omega)
    obtain ⟨t, l, CS, c1, c2, c3⟩ := pd.cells
    have hB : B < w.heap.size := (Array.getElem?_eq_some_iff.1 c2).1
    obtain ⟨k1, k2⟩ := hcells hB pd.img
    exact ⟨B, st.ext _ _ pd.phi, ⟨t, l, CS, c1, by rw [k1]; exact c2, c3.mono st.ext⟩, pd.base, pd.new, k2⟩
  · intro j k oj ok B hj hk haj hak hSj hSk hqj hqk e1 e2
    have hji : j ≠ i := by intro he; subst he; rw [hal] at haj; cases haj
    have hki : k ≠ i := by intro he; subst he; rw [hal] at hak; cases hak
    simp only [hS' j hji] at hSj
    simp only [hS' k hki] at hSk
    rw [st.old _ (hidlt j oj hj)] at e1
    rw [st.old _ (hidlt k ok hk)] at e2
    exact h.pinj j k oj ok B hj hk haj hak hSj hSk (by omega) (by omega) e1 e2
  · intro j oj hj haj hSj
    have hji : j ≠ i := by intro he; subst he; rw [hal] at haj; cases haj
    simp only [hS' j hji] at hSj
    rw [st.old _ (hidlt j oj hj)]
    exact h.notyet j oj hj haj hSj

/-- The slots of an operation that may come next. -/
theorem inv_slots (g : Good P call n ops b0 Tt Ot rc) {S : Nat → Bool} {a : Act} {w : World} {φ : Phi} {p : Nat} (h : Inv ds n ops b0 base Tt Ot rc φ0 Ωs w0 S a w φ p) {i : Nat} {o : Oper} (ho : ops[i]? = some o) (hi : S i = false)
    (hr : ∀ e ∈ predsOf o, S e = true) : TRel φ (rc i).R n (onlyA a n (o.looksAt ops)).tmps := by
  have him : i < ops.size := (Array.getElem?_eq_some_iff.1 ho).1
  have hrci := recOf_mask (g.get i o ho)
  have hlt := g.rd i o ho
  refine ⟨by simp [onlyA], fun t => ?_⟩
  rw [hrci.2.2.2.2.1, onlyT_get (fun t ht => Nat.lt_trans (hlt t ht) g.most) t, onlyA_get a n _ hlt t]
  by_cases ht : t ∈ o.looksAt ops
  · rw [if_pos ht, if_pos ht]
    have e1 := val_all g i (Nat.le_of_lt him) t
    have e2 := val_read g h.closed ho hi hr ht ops.size (Nat.le_refl _)
    rw [Nat.min_eq_right (Nat.le_of_lt him)] at e2
    rw [e1, ← e2]
    exact h.tm t
  · rw [if_neg ht, if_neg ht]; exact VRel.undef φ

end
end Go.Ev
