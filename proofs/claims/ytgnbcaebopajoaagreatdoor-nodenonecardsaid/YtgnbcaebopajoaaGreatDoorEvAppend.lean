/- append, and a text made bytes: the capacity is the tape's; what was there before is given up where it may be shared. -/
import Derived.Test.YtgnbcaebopajoaaGreatDoorEvOps3
namespace Go.Ev
open Go.RowKit

def kill (Ω : Om) (b : Nat) : Om := { Ω with h := Ω.h.set b none }

theorem kill_get {φ base Ω w} (hr : HRel φ base Ω w) {b B C : Nat} (hb : φ b = some (B, C)) (m : Nat) : (kill Ω b).h.get m = if m = b then none else Ω.h.get m := get_set_lt hr hb m

theorem kill_sound {φ base Ω w} (hr : HRel φ base Ω w) {b B C : Nat} (hb : φ b = some (B, C)) : HRel φ base (kill Ω b) w ∧ Stp φ Ω w φ (kill Ω b) w := by
  have hg := fun m => kill_get hr hb m
  have old : ∀ {m x}, (kill Ω b).h.get m = some x → Ω.h.get m = some x := by
    intro m x h
    rw [hg] at h
    split at h
    · cases h
    · exact h
  refine ⟨⟨hr.fresh, hr.lim, hr.glob, hr.size, hr.bound, fun b' x h => hr.obj b' x (old h), fun b' x B C h => hr.glo b' x B C (old h), fun b1 b2 x1 x2 B C1 C2 h1 h2 => hr.inj b1 b2 x1 x2 B C1 C2 (old h1) (old h2)⟩,
    ⟨Ext.refl φ, fun _ _ => rfl, Nat.le_refl _, Nat.le_refl _, rfl, rfl, rfl, fun B _ hi => ⟨rfl, ?_⟩⟩⟩
  rintro ⟨b', C', x, h1, hx, h2⟩
  exact hi ⟨b', C', x, old h1, hx, h2⟩

/-- A block that no live row stands for becomes a new row's. -/
theorem adopt_sound {φ base Ω w} (hr : HRel φ base Ω w) (hlim : Ω.next < Tr.most) (e : TypeId) (cs : List Value) (g : Option Nat) (B C : Nat) (CS : Array Value) (fz : Nat × Nat)
    (hh : w.heap[B]? = some (.cells CS e fz)) (hbase : base ≤ B) (hfree : ∀ b x C', Ω.h.get b = some x → φ b ≠ some (B, C'))
    (hfz : ∀ i, i < CS.size → ¬ (fz.1 ≤ i ∧ i < fz.2)) (hl : ∀ i (h : i < cs.length), ∃ h' : i < CS.size, VRel φ cs[i] CS[i]) (hg : ∀ k, g = some k → CS.size = C * k) :
    HRel (upd φ Ω.next (B, C)) base (newRow Ω e cs g) w := by
  have hf := hr.fresh Ω.next (Nat.le_refl _)
  have hext : Ext φ (upd φ Ω.next (B, C)) := upd_ext hf
  have hget : ∀ m, (newRow Ω e cs g).h.get m = if m = Ω.next then some (.row e cs false g) else Ω.h.get m := fun m => Tr.get_set _ _ _ _ hlim
  have hB : B < w.heap.size := (Array.getElem?_eq_some_iff.1 hh).1
  refine ⟨?_, ?_, fun g hg => hext _ _ (hr.glob g hg), hr.size, ?_, ?_, ?_, ?_⟩
  · intro b hb
    have hb' : Ω.next + 1 ≤ b := hb
    unfold upd
    rw [if_neg (by omega)]
    exact hr.fresh b (by omega)
  · show Ω.next + 1 ≤ _
    omega
  · intro b B' C' hb
    unfold upd at hb
    split at hb
    · injection hb with hb; injection hb with h1 h2; omega
    · exact hr.bound _ _ _ hb
  · intro b x h2
    rw [hget] at h2
    by_cases hbb : b = Ω.next
    · rw [if_pos hbb] at h2
      injection h2 with h2
      subst hbb h2
      refine ⟨B, C, CS, fz, by simp [upd], hh, hfz, ?_, fun _ => hbase, hg⟩
      intro i hi
      obtain ⟨h1, h2⟩ := hl i hi
      exact ⟨h1, h2.mono hext⟩
    · rw [if_neg hbb] at h2
      exact (hr.obj _ _ h2).move hext fun _ _ _ => rfl
  · intro b x B2 C2 h2 hx2 e2
    rw [hget] at h2
    by_cases hbb : b = Ω.next
    · rw [if_pos hbb] at h2; injection h2 with h2; subst h2; cases hx2
    · rw [if_neg hbb] at h2
      unfold upd at e2
      rw [if_neg hbb] at e2
      exact hr.glo _ _ _ _ h2 hx2 e2
  · intro b1 b2 x1 x2 B1 C1 C2 h1 h2 e1 e2
    rw [hget] at h1 h2
    unfold upd at e1 e2
    by_cases hb1 : b1 = Ω.next
    · by_cases hb2 : b2 = Ω.next
      · rw [hb1, hb2]
      · rw [if_pos hb1] at e1
        rw [if_neg hb2] at e2 h2
        injection e1 with e1
        injection e1 with e3 e4
        subst e3
        exact absurd e2 (hfree _ _ _ h2)
    · by_cases hb2 : b2 = Ω.next
      · rw [if_neg hb1] at e1 h1
        rw [if_pos hb2] at e2
        injection e2 with e2
        injection e2 with e3 e4
        subst e3
        exact absurd e1 (hfree _ _ _ h1)
      · rw [if_neg hb1] at e1 h1
        rw [if_neg hb2] at e2 h2
        exact hr.inj _ _ _ _ _ _ _ h1 h2 e1 e2

/-! ### How far a capacity reaches -/
theorem growBy_le (n : Nat) : ∀ (r c : Nat), c ≤ 2 * n + 1000 → Builtin.growBy n r c ≤ 2 * n + 1000 := by
  intro r
  induction r with
  | zero => intro c h; exact h
  | succ r ih =>
    intro c h
    unfold Builtin.growBy
    split
    · exact h
    · exact ih _ (by omega)

theorem nextslicecap_le {n c : Nat} (h : c < n) : Builtin.nextslicecap n c ≤ 2 * n + 1000 := by
  unfold Builtin.nextslicecap
  split
  · omega
  · split
    · omega
    · exact growBy_le n 4 c (by omega)

/-! ### append -/
def growTo (Ω : Om) (elem : TypeId) (i : TypeInfo) (cells : List Value) (need : Nat) : Option (Value × Om) :=
  if need ≤ small ∧ (2 * need + 1000) * i.bytes ≤ 1000000000000 then
    fN need fun need => fN Ω.next fun b => if b < Tr.most then some (.slice (some ⟨b, 0, none⟩) need unk, newRow Ω elem cells (some i.size)) else none
  else none

def appended (Ω : Om) (size : Nat) (x : Value) : Option (Nat × List Value) :=
  match x with
  | .slice none n _ => if n = 0 then some (0, []) else none
  | .slice (some ⟨b, o, none⟩) n _ => (rdCells Ω b o (n * size)).map fun l => (n, l)
  | _ => none

def appendOp (P : Program) (Ω : Om) (ts : List TypeId) (s x : Value) : Option (Value × Om) :=
  match ts with
  | [t, t2] =>
    match P.underlying t, P.underlying t2 with
    | some (.slice elem), some (.slice _) =>
      match P.info? elem with
      | some i =>
        match i.zero with
        | some z =>
          if z.cells.toList.length = i.size ∧ i.size ≠ 0 then
            match appended Ω i.size x with
            | some (n, new) =>
              match s with
              | .slice none 0 0 => if n = 0 then some (.slice none 0 0, Ω) else growTo Ω elem i new n
              | .slice (some ⟨b, o, none⟩) sl c =>
                if c < unk then
                  if sl + n ≤ c then (wrCells Ω b (o + sl * i.size) new).map fun Ω' => (.slice (some ⟨b, o, none⟩) (sl + n) c, Ω')
                  else match rdCells Ω b o (sl * i.size) with
                    | some old => growTo Ω elem i (old ++ new) (sl + n)
                    | none => none
                else if c = unk ∧ o = 0 then
                  match Ω.h.get b with
                  | some (.row e _ false (some k)) =>
                    if k = i.size ∧ e = elem ∧ new.all (·.oneCell') then
                      match rdCells Ω b 0 (sl * i.size) with
                      | some old => growTo (kill Ω b) elem i (old ++ new) (sl + n)
                      | none => none
                    else none
                  | _ => none
                else none
              | _ => none
            | none => none
          else none
        | none => none
      | none => none
    | _, _ => none
  | _ => none

/-- The model's append, its way to new memory. -/
theorem run_append_grow {P : Program} {w : World} {t t2 ty elem : TypeId} {d2 : TypeId} {i : TypeInfo} {z : Value} (hu : P.underlying t = some (.slice elem)) (hu2 : P.underlying t2 = some (.slice d2)) (hi : P.info? elem = some i) (hz : i.zero = some z)
    (hzs : z.cells.size = i.size) {base : Option Addr} {sl c n : Nat} {old new : List Value} {x : Value} (hlen : (Builtin.lenOf x).run P w = .ok n w)
    (hx : ∀ k, (Builtin.firstCells i.size n x).run P { w with drawn := w.drawn + k } = .ok new.toArray { w with drawn := w.drawn + k })
    (ho : ∀ k, (Builtin.firstCells i.size sl (.slice base sl c)).run P { w with drawn := w.drawn + k } = .ok old.toArray { w with drawn := w.drawn + k })
    (hlo : old.length = sl * i.size) (hln : new.length = n * i.size)
    (hneed : ¬ sl + n ≤ c) (hs : sl + n ≤ small) (hb : (2 * (sl + n) + 1000) * i.bytes ≤ 1000000000000) :
    ∃ C rest, (Builtin.append_ #[t, t2] ty #[.slice base sl c, x]).run P w = .ok (.slice (some ⟨w.heap.size, 0, none⟩) (sl + n) C) { w with drawn := w.drawn + 1, heap := w.heap.push (.cells (old.toArray ++ new.toArray ++ rest) elem) } ∧
      (old.toArray ++ new.toArray ++ rest).size = C * i.size ∧ sl + n ≤ C := by
  let q := Question.appendCap (sl + n) c elem
  let C := q.cut (w.tape w.drawn q)
  refine ⟨C, Builtin.zeroCells z.cells (C - (sl + n)), ?_, ?_, ?_⟩
  · have h1 : ¬ ((Builtin.nextslicecap (sl + n) c * i.bytes) > 2 ^ 48) := by
      have hle := nextslicecap_le (n := sl + n) (c := c) (by omega)
      have : Builtin.nextslicecap (sl + n) c * i.bytes ≤ (2 * (sl + n) + 1000) * i.bytes := Nat.mul_le_mul_right _ hle
      have e : (2:Nat) ^ 48 = 281474976710656 := by decide
      omega
    have h2 : ¬ (((sl + n : Nat) : Int) > IntKind.i64.max ∧ (False ∨ i.bytes = 0)) := by
      intro ⟨h, _⟩
      have : IntKind.i64.max = 9223372036854775807 := by decide
      rw [this] at h
      unfold small at hs
      omega
    have hd : q.forced = false := rfl
    have hx1 := hx 1
    have ho1 := ho 1
    unfold Builtin.append_
    simp only [List.getElem?_toArray, List.getElem?_cons_zero, List.getElem?_cons_succ, Sem.run_bind, r_under hu, Result.andThen_ok, r_size hi, r_under hu2, Sem.run_pure, Bool.false_eq_true, if_false, hlen, hneed, r_info hi]
    rw [if_neg h2, Sem.run_bind, r_info hi]
    simp only [Result.andThen_ok]
    rw [if_neg h1, Sem.run_bind, run_choose]
    simp only [q] at hd
    simp only [hd, Bool.false_eq_true, if_false, Result.andThen_ok]
    have hzr : ∀ w : World, (zeroValue elem).run P w = .ok z w := fun w => r_zero hi hz
    have hti : ∀ w : World, (typeInfo elem).run P w = .ok i w := fun w => r_info hi
    simp only [Sem.run_bind, hti, Result.andThen_ok, run_askRoom, ho1, Bool.not_false, if_true, hx1, hzr, Go.newRow, run_newObj, Sem.run_pure, C, q]
  · simp only [Array.size_append, List.size_toArray, hlo, hln, Builtin.zeroCells, Array.size_map, Array.size_range, hzs]
    have : sl + n ≤ C := by
      simp only [C, q, Question.cut]
      omega
    rw [← Nat.add_mul, ← Nat.add_mul]
    congr 1
    omega
  · show sl + n ≤ _
    simp only [C, q, Question.cut]
    omega

theorem run_first {P : Program} {φ : Phi} {base Ω w} (hr : HRel φ base Ω w) {b B C o k c : Nat} {l : List Value} {size n : Nat} (hb : φ b = some (B, C)) (h : rdCells Ω b o (n * size) = some l) :
    ∃ l', LRel φ l l' ∧ l'.length = n * size ∧ (∀ j, (Builtin.firstCells size n (.slice (some ⟨B, o, none⟩) k c)).run P { w with drawn := w.drawn + j } = .ok l'.toArray { w with drawn := w.drawn + j }) ∧ (Builtin.firstCells size n (.slice (some ⟨B, o, none⟩) k c)).run P w = .ok l'.toArray w := by
  obtain ⟨l', hrel, hlen, hcell⟩ := rd_sound hr hb h
  refine ⟨l', hrel, hlen, fun j => ?_, ?_⟩
  · have := run_loadCells' P { w with drawn := w.drawn + j } B o l' (fun i hi => hcell i hi)
    rw [hlen] at this
    simp only [Builtin.firstCells, this]
  · have := run_loadCells' P w B o l' (fun i hi => hcell i hi)
    rw [hlen] at this
    simp only [Builtin.firstCells, this]

theorem appended_sound {P : Program} {φ : Phi} {base Ω w} (hr : HRel φ base Ω w) {size n : Nat} {x x' : Value} {l : List Value} (hx : VRel φ x x') (h : appended Ω size x = some (n, l)) :
    ∃ l', LRel φ l l' ∧ l'.length = n * size ∧ (Builtin.lenOf x').run P w = .ok n w ∧ (∀ j, (Builtin.firstCells size n x').run P { w with drawn := w.drawn + j } = .ok l'.toArray { w with drawn := w.drawn + j }) ∧ (Builtin.firstCells size n x').run P w = .ok l'.toArray w := by
  unfold appended at h
  split at h
  · split at h
    · rename_i hn
      injection h with h
      injection h with h1 h2
      subst h1 h2 hn
      cases hx
      exact ⟨[], LRel.nil φ, by simp, rfl, fun j => rfl, rfl⟩
    · cases h
  · simp only [Option.map_eq_some_iff] at h
    obtain ⟨l1, hl, h⟩ := h
    injection h with h1 h2
    subst h1 h2
    cases hx with
    | slice _ _ _ hb => obtain ⟨l', a, b, c, d⟩ := run_first (P := P) hr hb hl; exact ⟨l', a, b, rfl, c, d⟩
    | sliceU _ hb => obtain ⟨l', a, b, c, d⟩ := run_first (P := P) hr hb hl; exact ⟨l', a, b, rfl, c, d⟩
    | sliceV _ _ _ hb => obtain ⟨l', a, b, c, d⟩ := run_first (P := P) hr hb hl; exact ⟨l', a, b, rfl, c, d⟩
  · cases h

/-- The way to new memory, whole. Ω1: what is left of the heap (the elder block given up or not). -/
theorem grow_sound {P : Program} {φ : Phi} {base Ω w} {t t2 ty elem d2 : TypeId} {i : TypeInfo} {z : Value} (hr : HRel φ base Ω w) (hu : P.underlying t = some (.slice elem)) (hu2 : P.underlying t2 = some (.slice d2)) (hi : P.info? elem = some i) (hz : i.zero = some z)
    (hzs : z.cells.size = i.size) {bs : Option Addr} {sl c n : Nat} {old old' new new' : List Value} {x' v : Value} {Ω' : Om} (hlen : (Builtin.lenOf x').run P w = .ok n w)
    (hx : ∀ k, (Builtin.firstCells i.size n x').run P { w with drawn := w.drawn + k } = .ok new'.toArray { w with drawn := w.drawn + k })
    (ho : ∀ k, (Builtin.firstCells i.size sl (.slice bs sl c)).run P { w with drawn := w.drawn + k } = .ok old'.toArray { w with drawn := w.drawn + k })
    (hlo : old'.length = sl * i.size) (hln : new'.length = n * i.size) (ro : LRel φ old old') (rn : LRel φ new new')
    (hneed : ¬ sl + n ≤ c) (h : growTo Ω elem i (old ++ new) (sl + n) = some (v, Ω')) :
    ∃ φ' w' v', (Builtin.append_ #[t, t2] ty #[.slice bs sl c, x']).run P w = .ok v' w' ∧ VRel φ' v v' ∧ HRel φ' base Ω' w' ∧ Stp φ Ω w φ' Ω' w' := by
  unfold growTo at h
  split at h
  · rename_i hc
    rw [fN_eq, fN_eq] at h
    split at h
    · rename_i hlim
      injection h with h
      injection h with h1 h2
      subst h1 h2
      obtain ⟨C, rest, hrun, hsz, hle⟩ := run_append_grow (ty := ty) hu hu2 hi hz hzs hlen hx ho hlo hln hneed hc.1 hc.2
      have hrel := ro.append rn
      obtain ⟨k1, k2, k3⟩ := new_sound hr hlim elem (old ++ new) (some i.size) C (old'.toArray ++ new'.toArray ++ rest) (0, 0)
        { w with drawn := w.drawn + 1, heap := w.heap.push (.cells (old'.toArray ++ new'.toArray ++ rest) elem) } rfl rfl rfl rfl (by intro i _; simp)
        (fun j hj => by
          have hj2 : j < (old' ++ new').length := by rw [← hrel.1]; exact hj
          refine ⟨by simp at hj2 ⊢; omega, ?_⟩
          have := hrel.2 j hj hj2
          have e : (old'.toArray ++ new'.toArray ++ rest)[j]'(by simp at hj2 ⊢; omega) = (old' ++ new')[j] := by
            rw [Array.getElem_append_left (by simp at hj2 ⊢; omega)]
            simp
          rw [e]; exact this)
        (fun k hk => by injection hk with hk; subst hk; exact hsz)
      exact ⟨_, _, _, hrun, .sliceU _ k3 hle, k1, k2⟩
    · cases h
  · cases h

/-- Storing behind what is there, in place. -/
theorem run_append_in {P : Program} {w w' : World} {t t2 ty elem d2 : TypeId} {i : TypeInfo} (hu : P.underlying t = some (.slice elem)) (hu2 : P.underlying t2 = some (.slice d2)) (hi : P.info? elem = some i)
    {a : Addr} {sl c n : Nat} {new : List Value} {x : Value} (hlen : (Builtin.lenOf x).run P w = .ok n w)
    (hx : (Builtin.firstCells i.size n x).run P w = .ok new.toArray w) (hneed : sl + n ≤ c) (hs : (storeCells (a.add (sl * i.size)) new).run P w = .ok () w') :
    (Builtin.append_ #[t, t2] ty #[.slice (some a) sl c, x]).run P w = .ok (.slice (some a) (sl + n) c) w' := by
  unfold Builtin.append_
  simp only [List.getElem?_toArray, List.getElem?_cons_zero, List.getElem?_cons_succ, Sem.run_bind, r_under hu, Result.andThen_ok, r_size hi, r_under hu2, Sem.run_pure, Bool.false_eq_true, if_false, hlen, hneed, if_true]
  simp only [Bool.not_false, if_true, hx, Result.andThen_ok, hs]

theorem run_append_nil {P : Program} {w : World} {t t2 ty elem d2 : TypeId} {i : TypeInfo} (hu : P.underlying t = some (.slice elem)) (hu2 : P.underlying t2 = some (.slice d2)) (hi : P.info? elem = some i)
    {x : Value} {new : List Value} (hlen : (Builtin.lenOf x).run P w = .ok 0 w) (hx : (Builtin.firstCells i.size 0 x).run P w = .ok new.toArray w) :
    (Builtin.append_ #[t, t2] ty #[.slice none 0 0, x]).run P w = .ok (.slice none 0 0) w := by
  unfold Builtin.append_
  simp only [List.getElem?_toArray, List.getElem?_cons_zero, List.getElem?_cons_succ, Sem.run_bind, r_under hu, Result.andThen_ok, r_size hi, r_under hu2, Sem.run_pure, Bool.false_eq_true, if_false, hlen]
  simp only [Nat.zero_add, Nat.le_refl, if_true, Bool.not_false, Sem.run_bind, hx, Result.andThen_ok, Sem.run_pure]

theorem append_sound {P : Program} {φ : Phi} {base Ω w} (hr : HRel φ base Ω w) {ts : Array TypeId} {ty : TypeId} {s s' x x' v : Value} {Ω' : Om} (hs : VRel φ s s') (hx : VRel φ x x') (h : appendOp P Ω ts.toList s x = some (v, Ω')) :
    ∃ φ' w' v', (Builtin.append_ ts ty #[s', x']).run P w = .ok v' w' ∧ VRel φ' v v' ∧ HRel φ' base Ω' w' ∧ Stp φ Ω w φ' Ω' w' := by
  unfold appendOp at h
  split at h
  · rename_i tl t t2 hts
    obtain rfl : ts = #[t, t2] := by cases ts; simp at hts; simp [hts]
    split at h
    · rename_i elem d2 hu hu2
      split at h
      · rename_i i hi
        split at h
        · rename_i z hz
          split at h
          · rename_i hzz
            obtain ⟨hzs, hsz⟩ := hzz
            have hzs : z.cells.size = i.size := by simpa using hzs
            split at h
            · rename_i n new hap
              obtain ⟨new', rn, hln, hlen, hxk, hx0⟩ := appended_sound (P := P) hr hx hap
              split at h
              · -- a nil slice
                cases hs
                split at h
                · rename_i hn
                  subst hn
                  injection h with h
                  injection h with h1 h2
                  subst h1 h2
                  exact ⟨φ, w, _, run_append_nil hu hu2 hi hlen hx0, .nilSlice _ _, hr, Stp.refl _ _ _⟩
                · rename_i hn
                  have h' : growTo Ω elem i ([] ++ new) (0 + n) = some (v, Ω') := by simpa using h
                  exact grow_sound (bs := none) (old := []) (old' := []) hr hu hu2 hi hz hzs hlen hxk (fun k => rfl) (by simp) hln (LRel.nil φ) rn (by omega) h'
              · rename_i b o sl c
                split at h
                · rename_i hc
                  -- the capacity is known
                  have main : ∀ {B C : Nat}, φ b = some (B, C) → ∃ φ' w' v', (Builtin.append_ #[t, t2] ty #[.slice (some ⟨B, o, none⟩) sl c, x']).run P w = .ok v' w' ∧ VRel φ' v v' ∧ HRel φ' base Ω' w' ∧ Stp φ Ω w φ' Ω' w' := by
                    intro B C hb
                    split at h
                    · rename_i hin
                      simp only [Option.map_eq_some_iff] at h
                      obtain ⟨Ω1, hw, h⟩ := h
                      injection h with h1 h2
                      subst h1 h2
                      obtain ⟨w', r1, r2, r3⟩ := wr_sound P hr hb hw rn
                      exact ⟨φ, w', _, run_append_in hu hu2 hi hlen hx0 hin (by rw [add_plain]; exact r1), .slice _ _ _ hb hc, r2, r3⟩
                    · rename_i hin
                      split at h
                      · rename_i old hold
                        obtain ⟨old', ro, hlo, hok, _⟩ := run_first (P := P) (k := sl) (c := c) hr hb hold
                        exact grow_sound hr hu hu2 hi hz hzs hlen hxk hok hlo hln ro rn hin h
                      · cases h
                  cases hs with
                  | slice _ _ _ hb _ => exact main hb
                  | sliceU _ hb => exact absurd hc (Nat.lt_irrefl _)
                  | sliceV _ _ _ hb => exact absurd hc (by simp [unk, unkV])
                · rename_i hc
                  split at h
                  · rename_i hcu
                    obtain ⟨rfl, rfl⟩ := hcu
                    cases hs with
                    | slice _ _ _ hb hcc => exact absurd hcc hc
                    | sliceU _ hb hn =>
                      rename_i B C
                      split at h
                      · rename_i e cs k hget
                        split at h
                        · rename_i hcond
                          obtain ⟨hk, he, hone⟩ := hcond
                          have he' := he.symm
                          subst hk he'
                          split at h
                          · rename_i old hold
                            obtain ⟨old', ro, hlo, hok, hok0⟩ := run_first (P := P) (k := sl) (c := C) hr hb hold
                            obtain ⟨hr1, st1⟩ := kill_sound hr hb
                            by_cases hin : sl + n ≤ C
                            · -- in place
                              obtain ⟨B', C', CS, fz, ra⟩ := hr.row _ _ _ _ _ hget
                              have e1 := ra.phi
                              rw [hb] at e1
                              injection e1 with e1
                              injection e1 with e1 e2
                              subst e1 e2
                              have hCS := ra.grown _ rfl
                              have hone' : ∀ v ∈ new', v.oneCell' = true := by
                                intro v hv'
                                obtain ⟨j, hj, rfl⟩ := List.getElem_of_mem hv'
                                have hj' : j < new.length := by rw [rn.1]; exact hj
                                rw [(rn.2 j hj' hj).oneCell]
                                exact List.all_eq_true.1 hone new[j] (List.getElem_mem hj')
                              have hfit : sl * i.size + n * i.size ≤ CS.size := by
                                rw [hCS, ← Nat.add_mul]; exact Nat.mul_le_mul_right _ hin
                              obtain ⟨w', hrun, hp⟩ := run_storeCells P B (sl * i.size) elem fz new' 0 w CS ra.heap ra.free (by rw [hln]; simpa using hfit) hone'
                              obtain ⟨p1, p2, p3, p4, p5, CS', q1, q2, q3⟩ := hp
                              simp only [Nat.add_zero] at q3
                              unfold growTo at h
                              split at h
                              · rename_i hsm
                                rw [fN_eq, fN_eq] at h
                                split at h
                                · rename_i hlim
                                  injection h with h
                                  injection h with h1 h2
                                  subst h1 h2
                                  have hlen2 : (old ++ new).length = sl * i.size + n * i.size := by simp [ro.1, rn.1, hlo, hln]
                                  have hcellold : ∀ j (hj : j < old'.length), CS[j]? = some old'[j] := by
                                    obtain ⟨l2, hrel2, hlen2, hcell2⟩ := rd_sound hr hb hold
                                    intro j hj
                                    have hr2 := run_loadCells' P w B 0 l2 hcell2
                                    rw [hlen2] at hr2
                                    simp only [Builtin.firstCells, hr2] at hok0
                                    injection hok0 with hok0
                                    have : l2 = old' := by simpa using congrArg Array.toList hok0
                                    subst this
                                    have := hcell2 j hj
                                    rw [cell_at ra.heap] at this
                                    simpa using this
                                  -- the killed heap over the new world
                                  have hgk := fun m => kill_get hr hb m
                                  have hr2 : HRel φ base (kill Ω b) w' := by
                                    refine ⟨hr1.fresh, hr1.lim, hr1.glob, by rw [p1]; exact hr1.size, by rw [p1]; exact hr1.bound, ?_, hr1.glo, hr1.inj⟩
                                    intro b2 x2 h2
                                    refine (hr1.obj _ _ h2).move (Ext.refl φ) fun B2 C2 e2 => p5 _ ?_
                                    have hbb : b2 ≠ b := by
                                      intro he; rw [hgk, if_pos he] at h2; cases h2
                                    have h3 : Ω.h.get b2 = some x2 := by rw [hgk, if_neg hbb] at h2; exact h2
                                    intro he
                                    subst he
                                    exact hbb (hr.inj _ _ _ _ _ _ _ h3 hget e2 ra.phi)
                                  have hfree : ∀ b2 x2 C2, (kill Ω b).h.get b2 = some x2 → φ b2 ≠ some (B, C2) := by
                                    intro b2 x2 C2 h2 he
                                    have hbb : b2 ≠ b := by
                                      intro hq; rw [hgk, if_pos hq] at h2; cases h2
                                    rw [hgk, if_neg hbb] at h2
                                    exact hbb (hr.inj _ _ _ _ _ _ _ h2 hget he ra.phi)
                                  have hvals : ∀ j (hj : j < (old ++ new).length), ∃ h' : j < CS'.size, VRel φ (old ++ new)[j] CS'[j] := by
                                    intro j hj
                                    have hj2 : j < CS'.size := by rw [q2]; omega
                                    refine ⟨hj2, ?_⟩
                                    have hrel := ro.append rn
                                    have hj3 : j < (old' ++ new').length := by rw [← hrel.1]; exact hj
                                    have := hrel.2 j hj hj3
                                    have e : CS'[j] = (old' ++ new')[j] := by
                                      have hq := q3 j
                                      rw [Array.getElem?_eq_getElem hj2] at hq
                                      by_cases hjo : j < sl * i.size
                                      · rw [if_neg (by omega), hcellold j (by omega)] at hq
                                        injection hq with hq
                                        rw [hq, List.getElem_append_left (by omega)]
                                      · rw [if_pos (by rw [hln]; omega)] at hq
                                        have hj4 : j - sl * i.size < new'.length := by rw [hln]; omega
                                        rw [List.getElem?_eq_getElem hj4] at hq
                                        injection hq with hq
                                        rw [hq, List.getElem_append_right (by omega)]
                                        simp only [hlo]
                                    rw [e]; exact this
                                  have hr3 := adopt_sound hr2 hlim elem (old ++ new) (some i.size) B C CS' fz q1 (ra.own rfl) hfree (by rw [q2]; exact ra.free) hvals (fun k hk => by injection hk with hk; subst hk; rw [q2]; exact hCS)
                                  have hfn := hr.fresh Ω.next (Nat.le_refl _)
                                  refine ⟨_, w', _, run_append_in (a := ⟨B, 0, none⟩) hu hu2 hi hlen hx0 hin (by rw [add_plain, Nat.zero_add]; exact hrun), .sliceU _ (by show upd φ Ω.next (B, C) Ω.next = _; simp [upd]) hin, hr3, ⟨upd_ext hfn, fun b hb => if_neg (Nat.ne_of_lt hb), Nat.le_succ _, by rw [p1]; exact Nat.le_refl _, p2, p3, p4, ?_⟩⟩
                                  intro B1 hB1 hni
                                  have hne : B1 ≠ B := by
                                    intro he
                                    subst he
                                    exact hni ⟨b, C, _, hget, rfl, ra.phi⟩
                                  refine ⟨p5 _ hne, ?_⟩
                                  rintro ⟨b2, C2, x2, h2, hx2, e2⟩
                                  have hget2 : (newRow (kill Ω b) elem (old ++ new) (some i.size)).h.get b2 = if b2 = Ω.next then some (.row elem (old ++ new) false (some i.size)) else (kill Ω b).h.get b2 := Tr.get_set _ _ _ _ hlim
                                  rw [hget2] at h2
                                  have e2' : upd φ Ω.next (B, C) b2 = some (B1, C2) := e2
                                  unfold upd at e2'
                                  by_cases hbb : b2 = Ω.next
                                  · rw [if_pos hbb] at e2'
                                    injection e2' with e2'
                                    injection e2' with e3 e4
                                    exact hne e3.symm
                                  · rw [if_neg hbb] at e2'
                                    rw [if_neg hbb] at h2
                                    have hb3 : b2 ≠ b := by
                                      intro hq; rw [hgk, if_pos hq] at h2; cases h2
                                    rw [hgk, if_neg hb3] at h2
                                    exact hni ⟨b2, C2, x2, h2, hx2, e2'⟩
                                · cases h
                              · cases h
                            · obtain ⟨φ', w', v', r1, r2, r3, r4⟩ := grow_sound (ty := ty) hr1 hu hu2 hi hz hzs hlen hxk hok hlo hln ro rn hin h
                              exact ⟨φ', w', v', r1, r2, r3, st1.trans r4⟩
                          · cases h
                        · cases h
                      · cases h
                  · cases h
              · cases h
            · cases h
          · cases h
        · cases h
      · cases h
    · cases h
  · cases h

/-! ### A text made bytes -/
def bytesL (l : List UInt8) : List Value := l.map fun b => .int .u8 b.toNat

def strBytesOp (P : Program) (Ω : Om) (src dst : TypeId) (x : Value) : Option (Value × Om) :=
  match P.underlying src, P.underlying dst with
  | some _, some (.slice e) =>
    match P.underlying e with
    | some (.int .u8) =>
      match x with
      | .string s =>
        let l := bytesL s.data.toList
        fN l.length fun n => fN Ω.next fun b => if b < Tr.most then some (.slice (some ⟨b, 0, none⟩) n unk, newRow Ω e l (some 1)) else none
      | _ => none
    | _ => none
  | _, _ => none

theorem bytesL_lit (l : List UInt8) : lits (bytesL l) = true := by
  unfold lits bytesL
  rw [List.all_eq_true]
  intro v hv
  simp only [List.mem_map] at hv
  obtain ⟨b, _, rfl⟩ := hv
  rfl

theorem strBytes_sound {P : Program} {φ : Phi} {base Ω w} (hr : HRel φ base Ω w) {src dst : TypeId} {x x' v : Value} {Ω' : Om} (hx : VRel φ x x') (h : strBytesOp P Ω src dst x = some (v, Ω')) :
    ∃ φ' w' v', (convert src dst x').run P w = .ok v' w' ∧ VRel φ' v v' ∧ HRel φ' base Ω' w' ∧ Stp φ Ω w φ' Ω' w' := by
  unfold strBytesOp at h
  split at h
  · rename_i ds e hs hd
    split at h
    · rename_i he
      split at h
      · rename_i s
        dsimp only at h
        rw [fN_eq, fN_eq] at h
        split at h
        · rename_i hlim
          injection h with h
          injection h with h1 h2
          subst h1 h2
          cases hx
          let q := Question.appendCap s.size 0 e
          let C := q.cut (w.tape w.drawn q)
          have hC : s.size ≤ C := by simp only [C, q, Question.cut]; omega
          let CS : Array Value := (s.data.map fun b => Value.int .u8 b.toNat) ++ Array.replicate (C - s.size) (.int .u8 0)
          have hss : s.data.size = s.size := rfl
          have hCS : CS.size = C := by simp [CS]; omega
          have hl := bytesL_lit s.data.toList
          have hlen : (bytesL s.data.toList).length = s.size := by simp [bytesL]
          let w1 : World := { w with drawn := w.drawn + 1, heap := w.heap.push (.cells CS e) }
          let w2 : World := w1.freeze ⟨w.heap.size, CS.size, none⟩ 1
          have hw2 : w2.heap = w.heap.push (.cells CS e (CS.size, CS.size + 1)) := by
            simp only [w2, w1, World.freeze]
            rw [if_neg (by decide)]
            apply Array.ext_getElem?
            intro k
            simp only [Array.getElem?_modify, Array.getElem?_push]
            by_cases hk : k = w.heap.size
            · subst hk; simp
            · rw [if_neg (Ne.symm hk), if_neg hk, if_neg hk]
          have hz : HRel φ base Ω { w with drawn := w.drawn + 1 } := hr.same ⟨rfl, rfl, rfl, rfl⟩
          obtain ⟨k1, k2, k3⟩ := new_sound (w := w) hr hlim e (bytesL s.data.toList) (some 1) C CS (CS.size, CS.size + 1) w2 hw2
            (by simp only [w2, World.freeze]; rw [if_neg (by decide)]) (by simp only [w2, World.freeze]; rw [if_neg (by decide)]) (by simp only [w2, World.freeze]; rw [if_neg (by decide)]) (by intro j hj; simp; omega)
            (fun j hj => by
              have hj2 : j < s.data.size := by rw [hlen] at hj; exact hj
              refine ⟨by rw [hCS]; omega, ?_⟩
              have e1 : CS[j]'(by rw [hCS]; omega) = (bytesL s.data.toList)[j] := by
                simp only [CS]
                rw [Array.getElem_append_left (by simpa using hj2)]
                simp [bytesL]
              rw [e1]
              exact (lits_lrel hl).2 j hj hj)
            (fun k hk => by injection hk with hk; subst hk; rw [hCS]; omega)
          refine ⟨_, w2, .slice (some ⟨w.heap.size, 0, none⟩) s.size C, ?_, ?_, k1, k2⟩
          · have hd1 : q.forced = false := rfl
            simp only [convert, Sem.run_bind, r_under hs, r_under hd, r_under he, Result.andThen_ok, Conv.stringToBytes, run_choose]
            simp only [q] at hd1
            simp only [hd1, Bool.false_eq_true, if_false, Result.andThen_ok, Go.newRow, Sem.run_bind, run_newObj, Sem.run_pure, markStringish, run_shape]
            have hsh : (w1.shape? w.heap.size) = some (e, CS.size) := by simp [World.shape?, w1]
            simp only [w1, CS, C, q] at hsh
            simp only [hsh, run_freeze, w2, w1, CS, C, q]
            rfl
          · rw [hlen]
            exact .sliceU _ k3 hC
        · cases h
      · cases h
    · cases h
  · cases h

end Go.Ev
