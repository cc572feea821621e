/- Regions that draw their order: every order comes to the trace's end. -/
import Derived.Test.YtgnbcaebopajoaaGreatDoorEvDraw2
namespace Go.Ev
open Go.RowKit

structure Good (P : Program) (call : CallF) (n : Nat) (ops : Array Oper) (b0 : Nat) (Tt : Nat → Tr Value) (Ot : Nat → Om) (rc : Nat → Rec) : Prop where
  get : ∀ i o, ops[i]? = some o → recOf P call ops b0 i o (rc i).mask (Tt i) (Ot i) = some (rc i)
  put : ∀ i o, ops[i]? = some o → putT (Tt i) n o.dst (rc i).r = some (Tt (i + 1))
  om : ∀ i o, ops[i]? = some o → (rc i).Ω' = Ot (i + 1)
  reach : ∀ i o j, ops[i]? = some o → (rc i).mask.testBit j = true → Reach ops i j
  conf : ∀ i j oi oj, i < j → ops[i]? = some oi → ops[j]? = some oj → confB (rc i) (rc j) = true → (rc j).mask.testBit i = true
  read : ∀ i o p, ops[i]? = some o → (rc i).w = true → (rc i).kd.isLoud = false → (rc i).kd.isAlloc = false → isRead o = true →
    (p = 0 ∨ ∃ j oj, ops[j]? = some oj ∧ (rc j).kd.isLoud = true ∧ p = j + 1) →
    (∀ j oj, ops[j]? = some oj → (rc j).kd.isLoud = true → j < p → (rc j).mask.testBit i = false) →
    (∀ j oj, ops[j]? = some oj → (rc j).kd.isLoud = true → p ≤ j → (rc i).mask.testBit j = false) → stillOp P (rc i).R (Ot p) o = some (rc i).r
  pred : ∀ i o, ops[i]? = some o → ∀ e ∈ predsOf o, e < i
  rd : ∀ (i : Nat) (o : Oper), ops[i]? = some o → ∀ t ∈ o.looksAt ops, t < n
  most : n < Tr.most
  ids : b0 + ops.size ≤ (Ot 0).next
  gl : ∀ i, i ≤ ops.size → (Ot i).gl = (Ot 0).gl

section
variable {P : Program} {call : CallF} {n : Nat} {ops : Array Oper} {b0 : Nat} {Tt : Nat → Tr Value} {Ot : Nat → Om} {rc : Nat → Rec}

/-- What the slot t holds when just the operations in S, among the first k, have been done. -/
def valS (ops : Array Oper) (rc : Nat → Rec) (T0 : Tr Value) (S : Nat → Bool) : Nat → Nat → Value
  | 0, t => evT T0 t
  | k + 1, t => if S k = true ∧ (ops[k]?).bind (·.dst) = some t then (rc k).r else valS ops rc T0 S k t

theorem val_all (g : Good P call n ops b0 Tt Ot rc) (k : Nat) (hk : k ≤ ops.size) (t : Nat) : evT (Tt k) t = valS ops rc (Tt 0) (fun _ => true) k t := by
  induction k with
  | zero => rfl
  | succ k ih =>
    have ho : ops[k]? = some ops[k] := by simp [show k < ops.size by omega]
    have hp := g.put k _ ho
    simp only [valS, ho, Option.bind_some, true_and]
    unfold putT at hp
    cases hd : ops[k].dst with
    | none =>
      rw [hd] at hp
      injection hp with hp
      rw [← hp, if_neg (by simp)]
      exact ih (by omega)
    | some d =>
      rw [hd] at hp
      simp only at hp
      split at hp
      · rename_i hdn
        rw [if_pos g.most] at hp
        injection hp with hp
        rw [← hp]
        simp only [evT, Tr.get_set _ _ _ _ (Nat.lt_trans hdn g.most), Option.some.injEq]
        by_cases ht : t = d
        · subst ht; simp
        · rw [if_neg ht, if_neg (Ne.symm ht)]
          exact ih (by omega)
      · cases hp

theorem reach_in {S : Nat → Bool} (hc : ∀ i o, ops[i]? = some o → S i = true → ∀ e ∈ predsOf o, S e = true) {i j : Nat} (h : Reach ops i j) (hi : S i = true) : S j = true := by
  induction h with
  | direct ho hj => exact hc _ _ ho hi _ hj
  | trans ho hk _ ih => exact ih (hc _ _ ho hi _ hk)

theorem reach_ready {S : Nat → Bool} (hc : ∀ i o, ops[i]? = some o → S i = true → ∀ e ∈ predsOf o, S e = true) {i j : Nat} {o : Oper} (ho : ops[i]? = some o) (hr : ∀ e ∈ predsOf o, S e = true) (h : Reach ops i j) : S j = true := by
  cases h with
  | direct ho' hj => rw [ho] at ho'; injection ho' with ho'; subst ho'; exact hr _ hj
  | trans ho' hk h => rw [ho] at ho'; injection ho' with ho'; subst ho'; exact reach_in hc h (hr _ hk)

theorem conf_w {a b : Rec} {t : Nat} (ha : a.o.dst = some t) (hb : t ∈ b.rd ∨ b.o.dst = some t) : confB a b = true := by
  unfold confB
  rw [ha]
  rcases hb with hb | hb
  · simp [hb]
  · simp [hb]
theorem conf_r {a b : Rec} {t : Nat} (hb : b.o.dst = some t) (ha : t ∈ a.rd) : confB a b = true := by
  unfold confB
  rw [hb]
  simp [ha]

theorem val_read (g : Good P call n ops b0 Tt Ot rc) {S : Nat → Bool} (hc : ∀ i o, ops[i]? = some o → S i = true → ∀ e ∈ predsOf o, S e = true) {i : Nat} {o : Oper} (ho : ops[i]? = some o) (hi : S i = false)
    (hr : ∀ e ∈ predsOf o, S e = true) {t : Nat} (ht : t ∈ o.looksAt ops) : ∀ k, k ≤ ops.size → valS ops rc (Tt 0) S k t = valS ops rc (Tt 0) (fun _ => true) (min k i) t := by
  have him : i < ops.size := (Array.getElem?_eq_some_iff.1 ho).1
  have hrci := recOf_mask (g.get i o ho)
  intro k
  induction k with
  | zero => intro _; simp [valS]
  | succ k ih =>
    intro hk
    have hok : ops[k]? = some ops[k] := by simp [show k < ops.size by omega]
    have hrck := recOf_mask (g.get k _ hok)
    have ihh := ih (by omega)
    by_cases hki : k < i
    · have e1 : min (k + 1) i = k + 1 := by omega
      have e2 : min k i = k := by omega
      rw [e1]
      rw [e2] at ihh
      simp only [valS, hok, Option.bind_some, true_and]
      by_cases hd : ops[k].dst = some t
      · have hcf : confB (rc k) (rc i) = true := conf_w (t := t) (by rw [hrck.2.1]; exact hd) (.inl (by rw [hrci.2.2.2.1]; exact ht))
        have hre := g.reach i o k ho (g.conf k i _ _ hki hok ho hcf)
        have hS := reach_ready hc ho hr hre
        simp [hd, hS]
      · simp only [hd, and_false, if_false]
        exact ihh
    · have e1 : min (k + 1) i = i := by omega
      have e2 : min k i = i := by omega
      rw [e1]
      rw [e2] at ihh
      simp only [valS, hok, Option.bind_some]
      by_cases hd : S k = true ∧ ops[k].dst = some t
      · exfalso
        have hne : k ≠ i := by intro e; subst e; rw [hi] at hd; cases hd.1
        have hcf : confB (rc i) (rc k) = true := conf_r (t := t) (by rw [hrck.2.1]; exact hd.2) (by rw [hrci.2.2.2.1]; exact ht)
        have hre := g.reach k _ i hok (g.conf i k _ _ (by omega) ho hok hcf)
        have := reach_in hc hre hd.1
        rw [hi] at this; cases this
      · rw [if_neg hd]
        exact ihh

theorem val_write (g : Good P call n ops b0 Tt Ot rc) {S : Nat → Bool} (hc : ∀ i o, ops[i]? = some o → S i = true → ∀ e ∈ predsOf o, S e = true) {i : Nat} {o : Oper} (ho : ops[i]? = some o) (hi : S i = false) (t : Nat) :
    ∀ k, k ≤ ops.size → valS ops rc (Tt 0) (fun j => S j || Nat.beq j i) k t = if i < k ∧ o.dst = some t then (rc i).r else valS ops rc (Tt 0) S k t := by
  have hrci := recOf_mask (g.get i o ho)
  intro k
  induction k with
  | zero => intro _; simp [valS]
  | succ k ih =>
    intro hk
    have hok : ops[k]? = some ops[k] := by simp [show k < ops.size by omega]
    have hrck := recOf_mask (g.get k _ hok)
    have ihh := ih (by omega)
    simp only [valS]
    rw [ihh]
    simp only [hok, Option.bind_some]
    by_cases hki : k = i
    · subst hki
      rw [ho] at hok
      injection hok with hok
      have hb : Nat.beq k k = true := Nat.beq_refl k
      simp only [hb, Bool.or_true, true_and, hi, Bool.false_eq_true, false_and, if_false, Nat.lt_irrefl, ← hok]
      by_cases hd : o.dst = some t
      · simp [hd]
      · simp [hd]
    · have hb : Nat.beq k i = false := by
        cases h : Nat.beq k i with
        | false => rfl
        | true => exact absurd (Nat.eq_of_beq_eq_true h) hki
      simp only [hb, Bool.or_false]
      by_cases hd : S k = true ∧ ops[k].dst = some t
      · rw [if_pos hd, if_pos hd]
        by_cases hik : i < k + 1 ∧ o.dst = some t
        · exfalso
          have hcf : confB (rc i) (rc k) = true := conf_w (t := t) (by rw [hrci.2.1]; exact hik.2) (.inr (by rw [hrck.2.1]; exact hd.2))
          have hre := g.reach k _ i hok (g.conf i k _ _ (by omega) ho hok hcf)
          have := reach_in hc hre hd.1
          rw [hi] at this; cases this
        · rw [if_neg hik]
      · rw [if_neg hd, if_neg hd]
        by_cases hd2 : o.dst = some t
        · by_cases hik : i < k
          · rw [if_pos ⟨hik, hd2⟩, if_pos ⟨by omega, hd2⟩]
          · rw [if_neg (by omega), if_neg (by omega)]
        · rw [if_neg (by simp [hd2]), if_neg (by simp [hd2])]

/-! ### One operation, its slots alone -/
def onlyA (a : Act) (n : Nat) (l : List Nat) : Act := { a with tmps := (Array.range n).map fun t => if t ∈ l then a.tmps.getD t undef else undef }

theorem onlyA_get (a : Act) (n : Nat) (l : List Nat) (hl : ∀ t ∈ l, t < n) (t : Nat) : (onlyA a n l).tmps.getD t undef = if t ∈ l then a.tmps.getD t undef else undef := by
  simp only [onlyA, Array.getD_eq_getD_getElem?, Array.getElem?_map, Array.getElem?_range]
  by_cases ht : t < n
  · simp [ht]
  · have : t ∉ l := fun h => ht (hl t h)
    simp [ht, this]

theorem onlyA_exec (a : Act) (n : Nat) {o : Oper} (hl : ∀ t ∈ o.looksAt ops, t < n) (hs : ∀ cs b, o.op ≠ .select cs b) : execOp (onlyA a n (o.looksAt ops)).eval o = execOp a.eval o := by
  refine execOp_congr o hs fun x hx => ?_
  cases x with
  | tmp t =>
    have ht : t ∈ o.looksAt ops := List.mem_append_left _ (List.mem_filterMap.2 ⟨.tmp t, by simpa using hx, rfl⟩)
    simp only [Act.eval, onlyA_get a n _ hl t, if_pos ht]
  | _ => rfl

theorem onlyA_wanted (a : Act) (n : Nat) (hn : a.tmps.size = n) {o : Oper} (hl : ∀ t ∈ o.looksAt ops, t < n) : Region.wanted o (yielded ops (onlyA a n (o.looksAt ops)).tmps) = Region.wanted o (yielded ops a.tmps) := by
  unfold Region.wanted
  cases hg : o.guard with
  | none => rfl
  | some gw =>
    obtain ⟨gd, want⟩ := gw
    have hy : yielded ops (onlyA a n (o.looksAt ops)).tmps gd = yielded ops a.tmps gd := by
      unfold yielded
      cases ht : (ops[gd]?).bind (·.dst) with
      | none => rfl
      | some t =>
        have hm : t ∈ o.looksAt ops := by simp [Oper.looksAt, hg, ht]
        have hlt := hl t hm
        have e : (onlyA a n (o.looksAt ops)).tmps[t]? = a.tmps[t]? := by
          have hsz : t < a.tmps.size := by rw [hn]; exact hlt
          have h1 : a.tmps[t]? = some (a.tmps[t]'hsz) := by simp [hsz]
          rw [h1]
          simp only [onlyA, Array.getElem?_map, Array.getElem?_range]
          simp [hlt, hm, hsz]
        simp only [Option.bind_some, e]
    simp only [hy]

theorem aop_not_select {R : Tr Value} {Ω : Om} {o : Oper} {x : Out} (h : aop P R Ω o = some x) : ∀ cs b, o.op ≠ .select cs b := by
  intro cs b ho
  simp [aop, ho] at h

/-- What an operation that is no alloc comes to, at a heap at which it makes this of it. -/
def Makes (P : Program) (call : CallF) (R : Tr Value) (Ω : Om) (o : Oper) (w : Bool) (r : Value) (Ω' : Om) : Prop :=
  (w = false ∧ r = undef ∧ Ω' = Ω) ∨ (w = true ∧ (aop P R Ω o = some (.val r Ω') ∨ ∃ f args, aop P R Ω o = some (.call f args) ∧ call f args Ω = some (r, Ω')))

theorem makes_wp (hP : NoCount P) (hc : CallOk P call) {i : Nat} {o : Oper} (ho : ops[i]? = some o) {R : Tr Value} {Ω Ω' : Om} {r : Value} {φ : Phi} {base : Nat} {a : Act} {w : World}
    (hl : ∀ t ∈ o.looksAt ops, t < n) (hn : a.tmps.size = n) (hR : TRel φ R n (onlyA a n (o.looksAt ops)).tmps) (hr : HRel φ base Ω w) (hm : Makes P call R Ω o (wantedA ops R o) r Ω') {Q : Exit → Act → World → Prop}
    {K : Act → World → Prop} (hK : ∀ φ' v' w', VRel φ' r v' → HRel φ' base Ω' w' → Stp φ Ω w φ' Ω' w' → K (a.put o.dst v') w') : wpOp P ops Q i K a w := by
  unfold wpOp
  simp only [ho]
  have hw : Region.wanted o (yielded ops a.tmps) = wantedA ops R o := by
    rw [← onlyA_wanted a n hn hl]
    exact wanted_eq hR ops o
  rcases hm with ⟨h1, rfl, rfl⟩ | ⟨h1, hm⟩
  · rw [hw, h1]
    simp only [Bool.false_eq_true, if_false]
    exact hK φ undef w (VRel.undef φ) hr (Stp.refl _ _ _)
  · rw [hw, h1]
    simp only [if_true]
    refine .inl ?_
    unfold Oper.wp
    rcases hm with ha | ⟨f, args, ha, hcall⟩
    · rw [← onlyA_exec a n hl (aop_not_select ha)]
      obtain ⟨φ', w', nx, v', e1, e2, e3, e4, e5⟩ := aop_sound hP hr hR ha
      rw [e1]
      have key := hK φ' v' w' e3 e4 e5
      rcases e2 with rfl | ⟨rfl, rfl⟩
      · exact key
      · exact key
    · rw [← onlyA_exec a n hl (aop_not_select ha)]
      obtain ⟨args', e1, e2⟩ := aop_sound hP hr hR ha
      rw [e1]
      have hcl := hc f args Ω r Ω' hcall φ base w args'.toList hr e2
      refine Calls.mono (by simpa using hcl) ?_
      rintro e w' ⟨φ', v', rfl, h3, h4, h5⟩
      exact hK φ' v' w' h3 h4 h5

end
end Go.Ev
