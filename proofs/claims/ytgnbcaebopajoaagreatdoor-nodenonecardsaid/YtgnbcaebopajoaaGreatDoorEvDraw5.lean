/- Regions that draw their order: one operation that may come next; all of them; the evaluator's region. -/
import Derived.Test.YtgnbcaebopajoaaGreatDoorEvDraw4
namespace Go.Ev
open Go.RowKit

def PForm (ops : Array Oper) (rc : Nat → Rec) (p : Nat) : Prop := p = 0 ∨ ∃ j oj, ops[j]? = some oj ∧ (rc j).kd.isLoud = true ∧ p = j + 1

section
variable {P : Program} {call : CallF} {n : Nat} {ops : Array Oper} {b0 base : Nat} {Tt : Nat → Tr Value} {Ot : Nat → Om} {rc : Nat → Rec} {φ0 : Phi} {Ωs : Om} {w0 : World} {ds : List Deferred}

theorem conf_ll {a b : Rec} (ha : a.kd.isLoud = true) (hb : b.kd.isLoud = true) : confB a b = true := by unfold confB; rw [ha, hb]; simp
theorem conf_al {a b : Rec} (ha : a.kd.isAlloc = true) (hb : b.kd.isLoud = true) : confB a b = true := by unfold confB; rw [ha, hb]; simp

theorem alloc_pend {φ : Phi} {Ω : Om} {w w' : World} (hr : HRel φ base Ω w) {b : Nat} {o : Obj} (hb : b < Ω.next) (hφ : φ b = none) (hh : w'.heap = w.heap.push o) :
    HRel (upd φ b (w.heap.size, 0)) base Ω w' ∧ Ext φ (upd φ b (w.heap.size, 0)) ∧ (∀ B, ¬ Img φ Ω B → ¬ Img (upd φ b (w.heap.size, 0)) Ω B) ∧ ¬ Img (upd φ b (w.heap.size, 0)) Ω w.heap.size := by
  have hext : Ext φ (upd φ b (w.heap.size, 0)) := upd_ext hφ
  have hdead : ∀ x, Ω.h.get b ≠ some x := by
    intro x hx
    obtain ⟨B, C, e⟩ := hr.live b x hx
    rw [hφ] at e; cases e
  have hold : ∀ m, m ≠ b → upd φ b (w.heap.size, 0) m = φ m := fun m hm => if_neg hm
  have hne : ∀ {m x}, Ω.h.get m = some x → m ≠ b := by intro m x h he; subst he; exact hdead x h
  have himg : ∀ B, Img (upd φ b (w.heap.size, 0)) Ω B → Img φ Ω B := by
    rintro B ⟨m, C, x, h1, h2, h3⟩
    rw [hold m (hne h1)] at h3
    exact ⟨m, C, x, h1, h2, h3⟩
  refine ⟨⟨?_, hr.lim, fun g hg => hext _ _ (hr.glob g hg), ?_, ?_, ?_, ?_, ?_⟩, hext, fun B h hi => h (himg B hi), fun hi => ?_⟩
  · intro m hm
    rw [hold m (by omega)]; exact hr.fresh m hm
  · rw [hh]; have := hr.size; simp; omega
  · intro m B C hm
    rw [hh]
    simp only [Array.size_push]
    unfold upd at hm
    split at hm
    · injection hm with hm; injection hm with h1 _; omega
    · have := hr.bound _ _ _ hm; omega
  · intro m x hm
    refine (hr.obj m x hm).move hext fun B C e => ?_
    rw [hh, Array.getElem?_push, if_neg (by have := hr.bound _ _ _ e; omega)]
  · intro m x B C hm hx e
    rw [hold m (hne hm)] at e
    exact hr.glo _ _ _ _ hm hx e
  · intro m1 m2 x1 x2 B C1 C2 h1 h2 e1 e2
    rw [hold m1 (hne h1)] at e1
    rw [hold m2 (hne h2)] at e2
    exact hr.inj _ _ _ _ _ _ _ h1 h2 e1 e2
  · obtain ⟨m, C, x, h1, h2, h3⟩ := himg _ hi
    have := hr.bound _ _ _ h3
    omega

theorem step_one (hP : NoCount P) (hc : CallOk P call) (hΩs : Ωs.next = b0) (g : Good P call n ops b0 Tt Ot rc) {S : Nat → Bool} {a : Act} {w : World} {φ : Phi} {p : Nat} (h : Inv ds n ops b0 base Tt Ot rc φ0 Ωs w0 S a w φ p) (hp : PForm ops rc p)
    {i : Nat} {o : Oper} (ho : ops[i]? = some o) (hi : S i = false) (hr : ∀ e ∈ predsOf o, S e = true) {Q : Exit → Act → World → Prop} {K : Act → World → Prop}
    (hK : ∀ a' w' φ' p', Inv ds n ops b0 base Tt Ot rc φ0 Ωs w0 (fun j => S j || Nat.beq j i) a' w' φ' p' → PForm ops rc p' → K a' w') : wpOp P ops Q i K a w := by
  have him : i < ops.size := (Array.getElem?_eq_some_iff.1 ho).1
  have hrci := recOf_mask (g.get i o ho)
  have hlt := g.rd i o ho
  have hsl := inv_slots g h ho hi hr
  have hple : p ≤ ops.size := by
    rcases hp with rfl | ⟨j, oj, hj, _, rfl⟩
    · omega
    · have := (Array.getElem?_eq_some_iff.1 hj).1; omega
  rcases rec_kinds g ho with ⟨hl, ha, hO, hw, hres⟩ | ⟨hl, ha, hm⟩ | ⟨hl, ha, hw, t, inf, z, hop, hinf, hz, hlit, hrr, hOm, hOm'⟩
  · -- still
    have hmk : Makes P call (rc i).R (Ot p) o (wantedA ops (rc i).R o) (rc i).r (Ot p) := by
      rcases hres with ⟨hwf, hr0⟩ | ⟨hwt, hs⟩
      · exact .inl ⟨by rw [← hw]; exact hwf, hr0, rfl⟩
      · refine .inr ⟨by rw [← hw]; exact hwt, .inl (still_aop ?_)⟩
        cases hrd : isRead o with
        | false =>
          rw [← hs]
          exact still_indep hrd (by rw [g.gl p hple, g.gl i (Nat.le_of_lt him)])
        | true =>
          refine g.read i o p ho hwt hl ha hrd hp ?_ ?_
          · intro j oj hj hlj hjp
            cases hb : (rc j).mask.testBit i with
            | false => rfl
            | true =>
              have hS := (h.front j oj hj hlj).2 hjp
              have := reach_in h.closed (g.reach j oj i hj hb) hS
              rw [hi] at this; cases this
          · intro j oj hj hlj hjp
            cases hb : (rc i).mask.testBit j with
            | false => rfl
            | true =>
              have hS := reach_ready h.closed ho hr (g.reach i o j ho hb)
              have := (h.front j oj hj hlj).1 hS
              omega
    exact makes_wp hP hc ho hlt h.size hsl h.heap hmk fun φ' v' w' hv hh st =>
      hK _ w' φ' p (inv_done g h ho hi hr ha hv hh st (Nat.le_refl _) (fun hx => by rw [hl] at hx; cases hx) (fun _ => rfl)) hp
  · -- loud
    have hpi : p ≤ i := by
      rcases Nat.lt_or_ge i p with hx | hx
      · have := (h.front i o ho hl).2 hx; rw [hi] at this; cases this
      · exact hx
    have hact := activate_to g (i - p) p h (by omega) (fun j hj1 hj2 => by
      have hoj : ops[j]? = some ops[j] := by simp [show j < ops.size by omega]
      refine ⟨?_, fun haj => ?_⟩
      · cases hlj : (rc j).kd.isLoud with
        | false => rfl
        | true =>
          have hb := g.conf j i _ _ (by omega) hoj ho (conf_ll hlj hl)
          have hS := reach_ready h.closed ho hr (g.reach i o j ho hb)
          have := (h.front j _ hoj hlj).1 hS
          omega
      · have hb := g.conf j i _ _ (by omega) hoj ho (conf_al haj hl)
        exact reach_ready h.closed ho hr (g.reach i o j ho hb))
    have e : p + (i - p) = i := by omega
    rw [e] at hact
    exact makes_wp hP hc ho hlt hact.size (inv_slots g hact ho hi hr) hact.heap hm fun φ' v' w' hv hh st =>
      hK _ w' φ' (i + 1) (inv_done g hact ho hi hr ha hv hh st (Nat.le_succ _) (fun _ => ⟨rfl, rfl⟩) (fun hx => by rw [hl] at hx; cases hx)) (.inr ⟨i, o, ho, hl, rfl⟩)
  · -- a new variable
    have hpi : p ≤ i := by
      rcases hp with rfl | ⟨j, oj, hj, hlj, rfl⟩
      · omega
      · rcases Nat.lt_or_ge i (j + 1) with hx | hx
        · exfalso
          have hne : i ≠ j := by intro he; subst he; rw [hl] at hlj; cases hlj
          have hb := g.conf i j _ _ (by omega) ho hj (conf_al ha hlj)
          have hS := (h.front j oj hj hlj).2 (by omega)
          have := reach_in h.closed (g.reach j oj i hj hb) hS
          rw [hi] at this; cases this
        · exact hx
    have hnxt := h.nxt
    have hφn := h.notyet i o ho ha hi
    let w1 : World := { w with heap := w.heap.push (.cells z.cells t) }
    obtain ⟨q1, q2, q3, q4⟩ := alloc_pend (w' := w1) h.heap (b := b0 + i) (by omega) hφn rfl
    have hrun : ∀ ρ, (execOp ρ o).run P w = .ok (.value (.pointer (some ⟨w.heap.size, 0, none⟩))) w1 := by
      intro ρ
      simp only [execOp, hop, Instr.alloc]
      simp [r_zero hinf hz, newVar, Go.newRow, w1]
    have hw2 : Region.wanted o (yielded ops a.tmps) = true := by
      rw [← onlyA_wanted a n h.size hlt, wanted_eq hsl ops o]; exact hw
    unfold wpOp
    simp only [ho, hw2, if_true]
    refine .inl ?_
    unfold Oper.wp
    rw [hrun]
    have hst : Stp φ0 Ωs w0 (upd φ (b0 + i) (w.heap.size, 0)) (Ot p) w1 := by
      obtain ⟨s1, s2, s3, s4, s5, s6, s7, s8⟩ := h.step
      refine ⟨s1.trans q2, fun b hb => ?_, s3, by simp [w1]; omega, s5, s6, s7, fun B hB hni => ?_⟩
      · have : upd φ (b0 + i) (w.heap.size, 0) b = φ b := if_neg (by omega)
        rw [this]; exact s2 b hb
      · obtain ⟨k1, k2⟩ := s8 B hB hni
        refine ⟨?_, q3 B k2⟩
        have hBw : B < w.heap.size := Nat.lt_of_lt_of_le hB s4
        simp only [w1]
        rw [Array.getElem?_push, if_neg (by omega)]
        exact k1
    have hS' : ∀ j, j ≠ i → (S j || Nat.beq j i) = S j := by
      intro j hj
      have : Nat.beq j i = false := by
        cases hb : Nat.beq j i with
        | false => rfl
        | true => exact absurd (Nat.eq_of_beq_eq_true hb) hj
      rw [this, Bool.or_false]
    have hSi : (S i || Nat.beq i i) = true := by simp
    have hput := g.put i o ho
    have hφi : upd φ (b0 + i) (w.heap.size, 0) (b0 + i) = some (w.heap.size, 0) := by simp [upd]
    have hbeq : ∀ {j}, j ≠ i → upd φ (b0 + i) (w.heap.size, 0) (b0 + j) = φ (b0 + j) := by
      intro j hj; exact if_neg (by omega)
    refine hK _ w1 _ p ⟨?_, ?_, ?_, ?_, by rw [put_defers]; exact h.defers, q1, ?_, ?_, ?_, hst, h.nxt⟩ hp
    · intro j oj hj hSj e he
      by_cases hji : j = i
      · subst hji
        rw [ho] at hj
        injection hj with hj
        subst hj
        have := hr e he
        simp [this]
      · simp only [hS' j hji] at hSj
        have := h.closed j oj hj hSj e he
        simp [this]
    · intro j oj hj hlj
      have hji : j ≠ i := by intro he; subst he; rw [hl] at hlj; cases hlj
      simp only [hS' j hji]
      exact h.front j oj hj hlj
    · have hs := h.size
      cases hd : o.dst with
      | none => exact hs
      | some d => simp [Act.put, hs]
    · intro t2
      rw [val_write g h.closed ho hi t2 ops.size (Nat.le_refl _)]
      unfold putT at hput
      by_cases hd : o.dst = some t2
      · rw [if_pos ⟨him, hd⟩]
        rw [hd] at hput ⊢
        simp only at hput
        split at hput
        · rename_i htn
          have : t2 < a.tmps.size := by rw [h.size]; exact htn
          have e : (a.put (some t2) (.pointer (some ⟨w.heap.size, 0, none⟩))).tmps.getD t2 undef = .pointer (some ⟨w.heap.size, 0, none⟩) := by simp [Act.put, Array.getD_eq_getD_getElem?, this]
          rw [e, hrr]; exact .ptr 0 hφi
        · cases hput
      · rw [if_neg (by simp [hd])]
        have e : ∀ v', (a.put o.dst v').tmps.getD t2 undef = a.tmps.getD t2 undef := by
          intro v'
          cases hd2 : o.dst with
          | none => rfl
          | some d =>
            have hne : t2 ≠ d := by intro he; subst he; exact hd hd2
            simp [Act.put, Array.getD_eq_getD_getElem?, Ne.symm hne]
        rw [e]
        exact (h.tm t2).mono q2
    · intro j oj hj haj hSj hqj
      by_cases hji : j = i
      · subst hji
        refine ⟨w.heap.size, hφi, ⟨t, z.cells.toList, z.cells, hOm', by simp [w1], lits_lrel hlit⟩, h.heap.size, h.step.size, q4⟩
      · simp only [hS' j hji] at hSj
        obtain ⟨B, pd⟩ := h.pend j oj hj haj hSj hqj
        obtain ⟨t3, l, CS, c1, c2, c3⟩ := pd.cells
        have hB : B < w.heap.size := (Array.getElem?_eq_some_iff.1 c2).1
        exact ⟨B, q2 _ _ pd.phi, ⟨t3, l, CS, c1, by simp only [w1]; rw [Array.getElem?_push, if_neg (by omega)]; exact c2, c3.mono q2⟩, pd.base, pd.new, q3 B pd.img⟩
    · intro j k oj ok B hj hk haj hak hSj hSk hqj hqk e1 e2
      have bnd : ∀ {m}, m ≠ i → φ (b0 + m) = some (w.heap.size, 0) → False := by
        intro m _ he
        have := h.heap.bound _ _ _ he
        omega
      by_cases hji : j = i
      · by_cases hki : k = i
        · rw [hji, hki]
        · exfalso
          rw [hji, hφi] at e1
          injection e1 with e1
          injection e1 with e1 _
          rw [hbeq hki, ← e1] at e2
          exact bnd hki e2
      · by_cases hki : k = i
        · exfalso
          rw [hki, hφi] at e2
          injection e2 with e2
          injection e2 with e2 _
          rw [hbeq hji, ← e2] at e1
          exact bnd hji e1
        · simp only [hS' j hji] at hSj
          simp only [hS' k hki] at hSk
          rw [hbeq hji] at e1
          rw [hbeq hki] at e2
          exact h.pinj j k oj ok B hj hk haj hak hSj hSk hqj hqk e1 e2
    · intro j oj hj haj hSj
      have hji : j ≠ i := by intro he; subst he; rw [hSi] at hSj; cases hSj
      simp only [hS' j hji] at hSj
      rw [hbeq hji]
      exact h.notyet j oj hj haj hSj

/-! ### All of them -/
theorem all_orders (hP : NoCount P) (hc : CallOk P call) (hΩs : Ωs.next = b0) (g : Good P call n ops b0 Tt Ot rc) {Q : Exit → Act → World → Prop}
    (hQ : ∀ a w φ, Inv ds n ops b0 base Tt Ot rc φ0 Ωs w0 (fun i => decide (i < ops.size)) a w φ ops.size → Q .normal a w) : ∀ (fuel : Nat) (listed : Array Bool) (a : Act) (w : World) (φ : Phi) (p : Nat),
    listed.size = ops.size → ((List.range ops.size).filter fun i => !listed.getD i false).length = fuel → Inv ds n ops b0 base Tt Ot rc φ0 Ωs w0 (fun i => listed.getD i false) a w φ p → PForm ops rc p → wpAny P .any ops Q fuel listed a w := by
  intro fuel
  have fin : ∀ (listed : Array Bool) (a : Act) (w : World) (φ : Phi) (p : Nat), listed.size = ops.size → (∀ i, i < ops.size → listed.getD i false = true) → Inv ds n ops b0 base Tt Ot rc φ0 Ωs w0 (fun i => listed.getD i false) a w φ p → PForm ops rc p → Q .normal a w := by
    intro listed a w φ p hsz hall h hp
    have hS : (fun i => listed.getD i false) = fun i => decide (i < ops.size) := by
      funext i
      by_cases hi : i < ops.size
      · rw [hall i hi]; simp [hi]
      · have : listed[i]? = none := by simp; omega
        simp [Array.getD_eq_getD_getElem?, this, hi]
    have hple : p ≤ ops.size := by
      rcases hp with rfl | ⟨j, oj, hj, _, rfl⟩
      · omega
      · have := (Array.getElem?_eq_some_iff.1 hj).1; omega
    have hact := activate_to g (ops.size - p) p h (by omega) (fun j hj1 hj2 => by
      have hoj : ops[j]? = some ops[j] := by simp [show j < ops.size by omega]
      refine ⟨?_, fun _ => hall j (by omega)⟩
      cases hlj : (rc j).kd.isLoud with
      | false => rfl
      | true =>
        have := (h.front j _ hoj hlj).1 (hall j (by omega))
        omega)
    have e : p + (ops.size - p) = ops.size := by omega
    rw [e, hS] at hact
    exact hQ a w φ hact
  have ready_nil : ∀ (listed : Array Bool), listed.size = ops.size → Region.ready .any ops listed = [] → ∀ i, i < ops.size → listed.getD i false = true := by
    intro listed hsz hnil i
    induction i using Nat.strongRecOn with
    | _ i ih =>
      intro hi
      cases hl : listed.getD i false with
      | true => rfl
      | false =>
        exfalso
        have hoi : ops[i]? = some ops[i] := by simp [hi]
        have hmem : i ∈ Region.ready .any ops listed := by
          unfold Region.ready
          rw [List.mem_filter]
          refine ⟨List.mem_range.2 hi, ?_⟩
          have h1 : listed.getD i true = false := by
            rw [Array.getD_eq_getD_getElem?] at hl ⊢
            have : listed[i]? = some (listed[i]'(by omega)) := by simp [show i < listed.size by omega]
            rw [this] at hl ⊢
            exact hl
          rw [h1, hoi]
          simp only [Bool.not_false, Option.map_some, Option.getD_some, Bool.true_and]
          rw [Array.all_eq_true']
          intro e he
          cases hb : Region.binds .any e with
          | false => simp
          | true =>
            have hpd : e.on ∈ predsOf ops[i] := by
              unfold predsOf
              simp only [List.mem_map, List.mem_filter]
              exact ⟨e, ⟨by simpa using he, hb⟩, rfl⟩
            have hlt := g.pred i _ hoi _ hpd
            simp [ih e.on hlt (by omega)]
        rw [hnil] at hmem
        cases hmem
  induction fuel with
  | zero =>
    intro listed a w φ p hsz hcount h hp
    have hall : ∀ i, i < ops.size → listed.getD i false = true := by
      intro i hi
      cases hl : listed.getD i false with
      | true => rfl
      | false =>
        exfalso
        have : i ∈ (List.range ops.size).filter fun i => !listed.getD i false := by
          rw [List.mem_filter]; exact ⟨List.mem_range.2 hi, by simp [hl]⟩
        rw [List.eq_nil_of_length_eq_zero hcount] at this
        cases this
    refine ⟨?_, fin listed a w φ p hsz hall h hp⟩
    unfold Region.ready
    rw [List.filter_eq_nil_iff]
    intro i hi
    have hi := List.mem_range.1 hi
    have hl := hall i hi
    have h1 : listed.getD i true = true := by
      rw [Array.getD_eq_getD_getElem?] at hl ⊢
      have : listed[i]? = some (listed[i]'(by omega)) := by simp [show i < listed.size by omega]
      rw [this] at hl ⊢
      exact hl
    simp [h1]
  | succ fuel ih =>
    intro listed a w φ p hsz hcount h hp
    refine ⟨fun hnil => fin listed a w φ p hsz (ready_nil listed hsz hnil) h hp, fun i hi => ?_⟩
    unfold Region.ready at hi
    rw [List.mem_filter] at hi
    obtain ⟨hi1, hi2⟩ := hi
    have him := List.mem_range.1 hi1
    have hoi : ops[i]? = some ops[i] := by simp [him]
    rw [hoi] at hi2
    simp only [Option.map_some, Option.getD_some, Bool.and_eq_true, Bool.not_eq_true'] at hi2
    obtain ⟨hl, hpr⟩ := hi2
    have hlF : listed.getD i false = false := by
      rw [Array.getD_eq_getD_getElem?] at hl ⊢
      have : listed[i]? = some (listed[i]'(by omega)) := by simp [show i < listed.size by omega]
      rw [this] at hl ⊢
      exact hl
    rw [Array.all_eq_true'] at hpr
    have hpreds : ∀ e ∈ predsOf ops[i], listed.getD e false = true := by
      intro e he
      unfold predsOf at he
      simp only [List.mem_map, List.mem_filter] at he
      obtain ⟨ed, ⟨he1, he2⟩, rfl⟩ := he
      have := hpr ed (by simpa using he1)
      rw [he2] at this
      simpa using this
    refine step_one hP hc hΩs g h hp hoi hlF hpreds fun a' w' φ' p' h' hp' => ?_
    have hS : (fun j => listed.getD j false || Nat.beq j i) = fun j => (listed.setIfInBounds i true).getD j false := by
      funext j
      simp only [Array.getD_eq_getD_getElem?, Array.getElem?_setIfInBounds]
      by_cases hji : i = j
      · subst hji
        simp [show i < listed.size by omega]
      · have : Nat.beq j i = false := by
          cases hb : Nat.beq j i with
          | false => rfl
          | true => exact absurd (Nat.eq_of_beq_eq_true hb).symm hji
        simp [hji, this]
    rw [hS] at h'
    refine ih _ a' w' φ' p' (by simp [hsz]) ?_ h' hp'
    -- one fewer is left
    have hcnt : ∀ (l : List Nat), l.Nodup → i ∈ l → (l.filter fun j => !listed.getD j false).length = (l.filter fun j => !(listed.setIfInBounds i true).getD j false).length + 1 := by
      intro l
      induction l with
      | nil => intro _ h; cases h
      | cons x r ihl =>
        intro hnd hmem
        have hnd' := List.nodup_cons.1 hnd
        have hget : ∀ j, (listed.setIfInBounds i true).getD j false = (listed.getD j false || Nat.beq j i) := fun j => (congrFun hS j).symm
        simp only [List.filter_cons, hget]
        by_cases hx : x = i
        · subst hx
          have hr : (r.filter fun j => !(listed.getD j false || Nat.beq j x)) = r.filter fun j => !listed.getD j false := by
            apply List.filter_congr
            intro j hj
            have hne : j ≠ x := by intro he; subst he; exact hnd'.1 hj
            have : Nat.beq j x = false := by
              cases hb : Nat.beq j x with
              | false => rfl
              | true => exact absurd (Nat.eq_of_beq_eq_true hb) hne
            rw [this, Bool.or_false]
          have hbx : Nat.beq x x = true := Nat.beq_refl x
          simp only [hlF, hbx, Bool.not_false, Bool.or_true, Bool.not_true, if_true, Bool.false_eq_true, if_false, List.length_cons, hr]
        · have hmem' : i ∈ r := by
            rcases List.mem_cons.1 hmem with he | he
            · exact absurd he.symm hx
            · exact he
          have := ihl hnd'.2 hmem'
          simp only [hget] at this
          have hb : Nat.beq x i = false := by
            cases hb : Nat.beq x i with
            | false => rfl
            | true => exact absurd (Nat.eq_of_beq_eq_true hb) hx
          simp only [hb, Bool.or_false]
          split
          · simp only [List.length_cons, this]
          · exact this
    have := hcnt (List.range ops.size) List.nodup_range (List.mem_range.2 him)
    omega

end

/-! ### The evaluator's region -/
theorem pairB_spec : ∀ {recs : List Rec}, pairB recs = true → ∀ i j (hi : i < recs.length) (hj : j < recs.length), i < j → confB recs[i] recs[j] = true → recs[j].mask.testBit recs[i].i = true := by
  intro recs
  induction recs with
  | nil => intro _ i j hi; simp at hi
  | cons a r ih =>
    intro h i j hi hj hij hc
    simp only [pairB, Bool.and_eq_true, List.all_eq_true] at h
    obtain ⟨h1, h2⟩ := h
    cases j with
    | zero => omega
    | succ j =>
      cases i with
      | zero =>
        simp only [List.getElem_cons_zero, List.getElem_cons_succ] at hc ⊢
        have hjr : j < r.length := by simpa using hj
        have := h1 r[j] (List.getElem_mem hjr)
        rw [hc] at this
        simpa using this
      | succ i =>
        simp only [List.getElem_cons_succ] at hc ⊢
        exact ih h2 i j (by simpa using hi) (by simpa using hj) (by omega) hc

theorem reserve_sound {φ : Phi} {base : Nat} {Ω : Om} {w : World} (hr : HRel φ base Ω w) (m : Nat) (hm : Ω.next + m < Tr.most) : HRel φ base { Ω with next := Ω.next + m } w :=
  ⟨fun b hb => hr.fresh b (by have : Ω.next + m ≤ b := hb; omega), by show Ω.next + m ≤ _; omega, hr.glob, hr.size, hr.bound, hr.obj, hr.glo, hr.inj⟩

theorem evDraw_ok {P : Program} (hP : NoCount P) (hm : P.follows .mixedOrders = true) : ∀ call n, CallOk P call → DrawOk P (evDraw P call n) n := by
  intro call n hc id ops s s' h ds φ base a w hs Q hQ
  unfold evDraw at h
  split at h
  · rename_i hlim
    obtain ⟨hn, hnx⟩ := hlim
    dsimp only at h
    split at h
    · rename_i recs T Ω htr
      split at h
      · rename_i hchk
        injection h with h
        subst h
        simp only [Bool.and_eq_true] at hchk
        obtain ⟨⟨⟨⟨hpair, hread⟩, hpred⟩, hrd⟩, hgl⟩ := hchk
        let dummy : Rec := ⟨default, 0, [], 0, false, .still, .nil, undef, s.Ω, s.Ω⟩
        obtain ⟨Tt, Ot, e1, e2, e3, e4, e5, tr⟩ := evTr_trace dummy ops.toList 0 [] s.T _ recs T Ω (by simp) rfl (fun x j hj => by simp at hj) htr
        simp only [Nat.zero_add, Array.length_toList] at e3 e4 e5
        let rc : Nat → Rec := fun i => recs.getD (i - 0) dummy
        have hrc : ∀ i (hi : i < recs.length), rc i = recs[i] := fun i hi => by simp [rc, List.getD_eq_getElem?_getD, hi]
        have hidx : ∀ i o, ops[i]? = some o → ∃ hi : i < recs.length, ops.toList[i]'(by simpa [e5] using hi) = o := by
          intro i o ho
          obtain ⟨h1, h2⟩ := Array.getElem?_eq_some_iff.1 ho
          exact ⟨by rw [e5]; exact h1, by simpa using h2⟩
        have get : ∀ i o, ops[i]? = some o → recOf P call ops s.Ω.next i o (rc i).mask (Tt i) (Ot i) = some (rc i) := by
          intro i o ho
          obtain ⟨hi, he⟩ := hidx i o ho
          have := tr.get i (by simpa [e5] using hi)
          simp only [Nat.zero_add] at this
          rw [he] at this
          exact this
        have hmask := fun i o (ho : ops[i]? = some o) => recOf_mask (get i o ho)
        have hom : ∀ i o, ops[i]? = some o → (rc i).Ω' = Ot (i + 1) := by
          intro i o ho
          obtain ⟨hi, he⟩ := hidx i o ho
          have := tr.om i (by simpa [e5] using hi)
          simp only [Nat.zero_add] at this
          exact this
        have good : Good P call n ops s.Ω.next Tt Ot rc := by
          refine ⟨get, ?_, hom, ?_, ?_, ?_, ?_, ?_, hn, ?_, ?_⟩
          · intro i o ho
            obtain ⟨hi, he⟩ := hidx i o ho
            have := tr.put i (by simpa [e5] using hi)
            simp only [Nat.zero_add] at this
            rw [he] at this
            exact this
          · intro i o j ho hj
            obtain ⟨hi, he⟩ := hidx i o ho
            have := tr.reach i (by simpa [e5] using hi) j
            simp only [Nat.zero_add] at this
            exact this hj
          · intro i j oi oj hij hoi hoj hcf
            obtain ⟨hi, _⟩ := hidx i oi hoi
            obtain ⟨hj, _⟩ := hidx j oj hoj
            rw [hrc i hi, hrc j hj] at hcf
            have := pairB_spec hpair i j hi hj hij hcf
            have hii : recs[i].i = i := by rw [← hrc i hi]; exact (hmask i oi hoi).2.2.1
            rw [hii] at this
            rw [hrc j hj]; exact this
          · intro i o p ho hw hl ha hrd' hp hb1 hb2
            obtain ⟨hi, _⟩ := hidx i o ho
            unfold readB at hread
            rw [List.all_eq_true] at hread
            have hx := hread recs[i] (List.getElem_mem hi)
            have hmi := hmask i o ho
            rw [hrc i hi] at hw hl ha hb2 hmi ⊢
            rw [hmi.2.1] at hx
            rw [hw, hl, ha, hrd'] at hx
            simp only [Bool.not_false, Bool.and_self, Bool.not_true, Bool.false_or, List.all_eq_true] at hx
            have hmem : (p, Ot p) ∈ fronts { s.Ω with next := s.Ω.next + ops.size } recs := by
              unfold fronts
              rcases hp with rfl | ⟨j, oj, hoj, hlj, rfl⟩
              · rw [e2]; exact List.mem_cons_self
              · obtain ⟨hj, _⟩ := hidx j oj hoj
                refine List.mem_cons_of_mem _ ?_
                rw [List.mem_map]
                have hmj := hmask j oj hoj
                refine ⟨recs[j], ?_, ?_⟩
                · rw [List.mem_filter]
                  exact ⟨List.getElem_mem hj, by rw [← hrc j hj]; exact hlj⟩
                · rw [← hrc j hj, hmj.2.2.1, hom j oj hoj]
            have hx2 := hx _ hmem
            rw [Bool.or_eq_true] at hx2
            rcases hx2 with hx2 | hx2
            · exfalso
              rw [List.any_eq_true] at hx2
              obtain ⟨b, hb, hx2⟩ := hx2
              obtain ⟨j, hj, rfl⟩ := List.getElem_of_mem hb
              have hoj : ops[j]? = some (ops[j]'(by rw [← e5]; exact hj)) := by simp [← e5, hj]
              have hmj := hmask j _ hoj
              rw [hrc j hj] at hmj
              simp only [Bool.and_eq_true] at hx2
              obtain ⟨hlj, hx2⟩ := hx2
              rw [hmj.2.2.1, hmi.2.2.1] at hx2
              split at hx2
              · rename_i hjp
                have := hb1 j _ hoj (by rw [hrc j hj]; exact hlj) hjp
                rw [hrc j hj, hx2] at this
                cases this
              · rename_i hjp
                have := hb2 j _ hoj (by rw [hrc j hj]; exact hlj) (by omega)
                rw [hx2] at this
                cases this
            · split at hx2
              · rename_i v hv
                rw [hv, eqV_eq hx2]
              · cases hx2
          · intro i o ho e he
            obtain ⟨hi, _⟩ := hidx i o ho
            unfold predB at hpred
            rw [List.all_eq_true] at hpred
            have hx := hpred recs[i] (List.getElem_mem hi)
            have hmi := hmask i o ho
            rw [hrc i hi] at hmi
            rw [hmi.2.1, hmi.2.2.1, List.all_eq_true] at hx
            simpa using hx e he
          · intro i o ho t ht
            obtain ⟨hi, _⟩ := hidx i o ho
            unfold rdB at hrd
            rw [List.all_eq_true] at hrd
            have hx := hrd recs[i] (List.getElem_mem hi)
            have hmi := hmask i o ho
            rw [hrc i hi] at hmi
            rw [hmi.2.2.2.1, List.all_eq_true] at hx
            simpa using hx t ht
          · rw [e2]; exact Nat.le_refl _
          · intro i hi
            unfold glB at hgl
            rw [List.all_eq_true] at hgl
            cases i with
            | zero => rfl
            | succ i =>
              have hoi : ops[i]? = some ops[i] := by simp [show i < ops.size by omega]
              have hlt : i < recs.length := by rw [e5]; omega
              have hx := hgl recs[i] (List.getElem_mem hlt)
              simp only [Bool.and_eq_true] at hx
              have := hom i _ hoi
              rw [hrc i hlt] at this
              rw [← this, e2, Nat.eq_of_beq_eq_true hx.2]
        refine wp_region_any hm ?_
        have hs1 : SameHeap w { w with drawn := w.drawn + 1 } := ⟨rfl, rfl, rfl, rfl⟩
        have hr0 := reserve_sound (hs.heap.same hs1) ops.size hnx
        refine all_orders (ds := ds) (Ωs := s.Ω) (φ0 := φ) (w0 := { w with drawn := w.drawn + 1 }) (base := base) hP hc rfl good ?_ ops.size _ a _ φ 0 (by simp) ?_ ?_ (.inl rfl)
        · intro a' w' φ' h
          refine hQ φ' a' w' ⟨⟨h.size, fun t => ?_⟩, h.defers, ?_⟩ ?_
          · have hv := h.tm t
            have hS : ∀ k, k ≤ ops.size → valS ops rc (Tt 0) (fun i => decide (i < ops.size)) k t = valS ops rc (Tt 0) (fun _ => true) k t := by
              intro k
              induction k with
              | zero => intro _; rfl
              | succ k ih =>
                intro hk
                simp only [valS, ih (by omega), decide_eq_true_eq, show k < ops.size by omega, true_and]
            rw [hS _ (Nat.le_refl _), ← val_all good ops.size (Nat.le_refl _), e3] at hv
            exact hv
          · have := h.heap; rw [e4] at this; exact this
          · have := h.step
            rw [e4] at this
            have st0 : Stp φ s.Ω w φ s.Ω { w with drawn := w.drawn + 1 } := Stp.same hs1
            exact st0.trans this
        · have : (List.range ops.size).filter (fun i => !(Array.replicate ops.size false).getD i false) = List.range ops.size := by
            rw [List.filter_eq_self]
            intro i hi
            have hi := List.mem_range.1 hi
            simp [Array.getD_eq_getD_getElem?, hi]
          rw [this, List.length_range]
        · have hno : ∀ i, (Array.replicate ops.size false).getD i false = false := by
            intro i
            by_cases hi : i < ops.size
            · simp [Array.getD_eq_getD_getElem?, hi]
            · simp [Array.getD_eq_getD_getElem?, hi]
          refine ⟨?_, ?_, hs.tmps.size, ?_, hs.defers, by rw [e2]; exact hr0, ?_, ?_, ?_, ?_, ?_⟩
          · intro i o _ hi; rw [hno] at hi; cases hi
          · intro j o _ _; simp [hno]
          · intro t
            have hS : ∀ k, valS ops rc (Tt 0) (fun i => (Array.replicate ops.size false).getD i false) k t = evT s.T t := by
              intro k
              induction k with
              | zero => simp only [valS]; rw [e1]
              | succ k ih =>
                have e : valS ops rc (Tt 0) (fun i => (Array.replicate ops.size false).getD i false) (k + 1) t = valS ops rc (Tt 0) (fun i => (Array.replicate ops.size false).getD i false) k t := by
                  show (if _ ∧ _ then _ else _) = _
                  rw [if_neg (fun hh => by have h2 := (hno k).symm.trans hh.1; cases h2)]
                rw [e]; exact ih
            rw [hS]
            exact hs.tmps.vals t
          · intro i o _ _ hi; rw [hno] at hi; cases hi
          · intro i j oi oj B _ _ _ _ hi; rw [hno] at hi; cases hi
          · intro i o ho _ _
            exact hs.heap.fresh _ (by omega)
          · rw [e2]
            exact ⟨Ext.refl φ, fun _ _ => rfl, by show s.Ω.next ≤ s.Ω.next + ops.size; omega, Nat.le_refl _, rfl, rfl, rfl, fun B _ hi => ⟨rfl, hi⟩⟩
          · rw [e2]; exact Nat.le_refl _
      · cases h
    · cases h
  · cases h

end Go.Ev
