/- Operations: makeSlice, slices of slices, len, cap, conversions. -/
import Derived.Test.YtgnbcaebopajoaaGreatDoorEvOps2
import Derived.Laws.BytesArg
namespace Go.Ev
open Go.RowKit

def small : Nat := 1000000

theorem wrap_small {n : Int} (h0 : 0 ≤ n) (h : n ≤ small) : IntKind.i64.wrap n = n := by
  unfold small at h
  have e1 : n % (2 ^ IntKind.i64.bits : Int) = n := Int.emod_eq_of_lt h0 (by simp [IntKind.bits]; omega)
  unfold IntKind.wrap
  simp only [e1]
  have : ¬ (n ≥ (2 ^ (IntKind.i64.bits - 1) : Int)) := by simp [IntKind.bits]; omega
  simp [this]

/-! ### makeSlice -/
def makeSliceOp (P : Program) (Ω : Om) (t : TypeId) (l c : Value) : Option (Value × Om) :=
  match l, c with
  | .int _ l, .int _ c =>
    match P.underlying t with
    | some (.slice elem) =>
      match P.info? elem with
      | some i =>
        match i.zero with
        | some z =>
          let zl := z.cells.toList
          if lits zl ∧ zl.length = i.size ∧ i.size ≠ 0 ∧ 0 ≤ l ∧ l ≤ c ∧ c ≤ small ∧ (i.bytes : Int) * c ≤ 1000000000000 then
            fN c.toNat fun c => fN l.toNat fun l => fN Ω.next fun b => if b < Tr.most then some (.slice (some ⟨b, 0, none⟩) l c, newRow Ω elem (zeros zl c) none) else none
          else none
        | none => none
      | none => none
    | _ => none
  | _, _ => none

theorem makeSlice_sound {P : Program} {φ base Ω w} (hr : HRel φ base Ω w) {t : TypeId} {l c l' c' v : Value} {Ω' : Om} (hl : VRel φ l l') (hc : VRel φ c c') (h : makeSliceOp P Ω t l c = some (v, Ω')) :
    ∃ φ' w' v', (Instr.makeSlice t l' c').run P w = .ok v' w' ∧ VRel φ' v v' ∧ HRel φ' base Ω' w' ∧ Stp φ Ω w φ' Ω' w' := by
  unfold makeSliceOp at h
  split at h
  · rename_i k1 l k2 c
    cases hl
    cases hc
    split at h
    · rename_i elem hu
      split at h
      · rename_i i hi
        split at h
        · rename_i z hz
          dsimp only at h
          split at h
          · rename_i hh
            obtain ⟨hlit, hlen, hsz, h0, hlc, hcm, hby⟩ := hh
            rw [fN_eq, fN_eq, fN_eq] at h
            split at h
            · rename_i hlim
              injection h with h
              injection h with ha hb
              subst ha hb
              have hzs : z.cells.size = i.size := by simpa using hlen
              have e := range_map_zeros z.cells (c.toNat * i.size) c.toNat (by rw [hzs]) (by rw [hzs]; exact hsz)
              have hrel : LRel φ (zeros z.cells.toList c.toNat) ((Array.range (c.toNat * i.size)).map (fun i => z.cells[i % z.cells.size]!)).toList := by
                rw [e]; exact lits_lrel (zeros_lits hlit _)
              obtain ⟨φ', w', h1, h2, h3, h4⟩ := newRow_sound (P := P) hr hlim (t := elem) hrel c.toNat
              have hunk : c.toNat < unk := by unfold unk; unfold small at hcm; omega
              refine ⟨φ', w', _, ?_, .slice 0 l.toNat c.toNat h4 hunk, h2, h3⟩
              have hcc : IntKind.i64.wrap c = c := wrap_small (by omega) hcm
              have hll : IntKind.i64.wrap l = l := wrap_small h0 (by omega)
              have hbig : ¬ ((i.bytes : Int) * c > 2 ^ 48) := by
                have : (2:Int) ^ 48 = 281474976710656 := by decide
                omega
              have hcn : ¬ c < 0 := by omega
              have hln : ¬ l < 0 := by omega
              have hlc' : ¬ l > c := by omega
              unfold Instr.makeSlice
              rw [Sem.run_bind, r_under hu]
              simp only [Result.andThen_ok]
              simp only [asInt, asIntOf, Sem.run_bind, Sem.run_pure, Result.andThen_ok, r_info hi, hcc, hll, hcn, hln, hlc', hbig, decide_false, Bool.or_self, Bool.false_eq_true, if_false, run_askRoom, r_size hi]
              by_cases hn : c.toNat * i.size = 0
              · rw [hn] at h1 ⊢
                have er : Array.range 0 = #[] := rfl
                simp only [er, Array.map_empty] at h1
                simp [er, h1]
              · simp [hn, r_zero hi hz, h1]
            · cases h
          · cases h
        · cases h
      · cases h
    · cases h
  · cases h

/-! ### slices -/
/-- A bound that is given, or what stands in for it. -/
def boundOr (x : Option Value) (d : Nat) : Option Nat :=
  match x with
  | none => some d
  | some (.int _ i) => if 0 ≤ i then some i.toNat else none
  | _ => none

def sliceBy (elem : Nat) (b o len : Nat) (capKnown : Option Nat) (lo hi mx : Option Value) : Option Value :=
  match capKnown with
  | some cap =>
    match boundOr mx cap with
    | some m =>
      match boundOr hi len with
      | some h =>
        match boundOr lo 0 with
        | some l => if l ≤ h ∧ h ≤ m ∧ m ≤ cap ∧ (hi.isSome ∨ mx.isNone) then fN (h - l) fun n => fN (m - l) fun c => if m = l then some (.slice (some ⟨b, o, none⟩) n c) else fN (o + l * elem) fun o => some (.slice (some ⟨b, o, none⟩) n c) else none
        | none => none
      | none => none
    | none => none
  | none => none

def sliceOp (P : Program) (t : TypeId) (x : Value) (lo hi mx : Option Value) : Option Value :=
  match P.underlying t with
  | some .string =>
    match x, mx with
    | .string s, none =>
      match boundOr hi s.data.toList.length, boundOr lo 0 with
      | some h, some l => if l ≤ h ∧ h ≤ s.data.toList.length then some (.string ⟨⟨(s.data.toList.drop l).take (h - l)⟩⟩) else none
      | _, _ => none
    | _, _ => none
  | some (.array n elem) =>
    match x with
    | .pointer (some ⟨b, o, none⟩) =>
      match P.info? elem with
      | some i => if n < unk then sliceBy i.size b o n (some n) lo hi mx else none
      | none => none
    | _ => none
  | some (.slice elem) =>
    match x with
    | .slice none 0 0 => match boundOr mx 0, boundOr hi 0, boundOr lo 0, P.info? elem with
      | some 0, some 0, some 0, some _ => if hi.isSome ∨ mx.isNone then some (.slice none 0 0) else none
      | _, _, _, _ => none
    | .slice (some ⟨b, o, none⟩) len cap =>
      match P.info? elem with
      | some i =>
        if cap < unk then sliceBy i.size b o len (some cap) lo hi mx
        else if unk ≤ len then none
        else if mx.isSome then
          -- the capacity is not known: the bounds lie within the length
          sliceBy i.size b o len (some len) lo hi mx
        else
          match boundOr hi len, boundOr lo 0 with
          | some h, some l =>
            if l ≤ h ∧ h ≤ len then
              if l = 0 then some (.slice (some ⟨b, o, none⟩) h cap)
              else if l < len then fN (h - l) fun n => fN (o + l * i.size) fun o => some (.slice (some ⟨b, o, none⟩) n unkV)
              else none
            else none
          | _, _ => none
      | none => none
    | _ => none
  | _ => none

theorem bound_run {P : Program} {φ : Phi} {w : World} {x x' : Option Value} {d n : Nat} (hx : ∀ v, x = some v → ∃ v', x' = some v' ∧ VRel φ v v') (hn : x = none → x' = none) (h : boundOr x d = some n) :
    (x' = none ∧ x = none ∧ n = d) ∨ (∃ v', x' = some v' ∧ x.isSome ∧ ∀ y, n ≤ y → ∀ code, (Instr.sliceBound v' y code).run P w = .ok n w) := by
  cases x with
  | none => injection h with h; exact .inl ⟨hn rfl, rfl, h.symm⟩
  | some v =>
    obtain ⟨v', rfl, hv⟩ := hx v rfl
    unfold boundOr at h
    split at h
    · rename_i he; cases he
    · rename_i k i he
      injection he with he
      subst he
      cases hv
      split at h
      · rename_i h0
        injection h with h
        subst h
        refine .inr ⟨_, rfl, rfl, fun y hy code => ?_⟩
        have : i ≤ y := by omega
        simp [Instr.sliceBound, asIntOf, h0, this]
      · cases h
    · cases h

def ORel (φ : Phi) (x x' : Option Value) : Prop := (∀ v, x = some v → ∃ v', x' = some v' ∧ VRel φ v v') ∧ (x = none → x' = none)

theorem bounds_run {P : Program} {φ : Phi} {w : World} {lo hi mx lo' hi' mx' : Option Value} {isSlice : Bool} {len cap h l m : Nat} (hlo : ORel φ lo lo') (hhi : ORel φ hi hi') (hmx : ORel φ mx mx')
    (em : boundOr mx cap = some m) (eh : boundOr hi len = some h) (el : boundOr lo 0 = some l) (h1 : l ≤ h) (h2 : h ≤ m) (h3 : m ≤ cap) (h4 : hi.isSome ∨ mx.isNone) :
    (Instr.sliceBounds isSlice len cap lo' hi' mx').run P w = .ok (l, h, m) w := by
  have am := bound_run (P := P) (w := w) hmx.1 hmx.2 em
  have ah := bound_run (P := P) (w := w) hhi.1 hhi.2 eh
  have al := bound_run (P := P) (w := w) hlo.1 hlo.2 el
  rcases am with ⟨rfl, rfl, rfl⟩ | ⟨vm, rfl, sm, rm⟩ <;> rcases ah with ⟨rfl, rfl, rfl⟩ | ⟨vh, rfl, sh, rh⟩ <;> rcases al with ⟨rfl, rfl, rfl⟩ | ⟨vl, rfl, sl, rl⟩
  · simp [Instr.sliceBounds]
  · simp [Instr.sliceBounds, rl _ h1]
  · simp [Instr.sliceBounds, rh _ h2]
  · simp [Instr.sliceBounds, rh _ h2, rl _ h1]
  · simp at h4 sm; rw [h4] at sm; cases sm
  · simp at h4 sm; rw [h4] at sm; cases sm
  · simp [Instr.sliceBounds, rm _ h3, rh _ h2]
  · simp [Instr.sliceBounds, rm _ h3, rh _ h2, rl _ h1]

theorem sliceBy_sound {φ : Phi} {elem b o len cap B C : Nat} {lo hi mx : Option Value} {v : Value} (hb : φ b = some (B, C)) (hc : cap < unk) (h : sliceBy elem b o len (some cap) lo hi mx = some v) :
    ∃ l hh m, boundOr mx cap = some m ∧ boundOr hi len = some hh ∧ boundOr lo 0 = some l ∧ l ≤ hh ∧ hh ≤ m ∧ m ≤ cap ∧ (hi.isSome ∨ mx.isNone) ∧
      VRel φ v (.slice (some (if m = l then ⟨B, o, none⟩ else (⟨B, o, none⟩ : Addr).add (l * elem))) (hh - l) (m - l)) := by
  simp only [sliceBy] at h
  split at h
  · rename_i m em
    split at h
    · rename_i hh eh
      split at h
      · rename_i l el
        split at h
        · rename_i hcond
          obtain ⟨c1, c2, c3, c4⟩ := hcond
          rw [fN_eq, fN_eq] at h
          refine ⟨l, hh, m, em, eh, el, c1, c2, c3, c4, ?_⟩
          split at h
          · rename_i hml
            injection h with h
            subst h
            rw [if_pos hml]
            exact .slice _ _ _ hb (by omega)
          · rename_i hml
            rw [fN_eq] at h
            injection h with h
            subst h
            rw [if_neg hml, add_plain]
            exact .slice _ _ _ hb (by omega)
        · cases h
      · cases h
    · cases h
  · cases h

theorem sl_eq {α : Type} (p : Prop) [Decidable p] (a : α) (f : α → α) : (if p then some a else (some a).map f) = some (if p then a else f a) := by split <;> rfl

theorem run_slice' {P : Program} {w : World} {t elem : TypeId} {i : TypeInfo} {a : Addr} {len c l hh m : Nat} {lo' hi' mx' : Option Value} (hu : P.underlying t = some (.slice elem)) (hi : P.info? elem = some i)
    (h : (Instr.sliceBounds true len c lo' hi' mx').run P w = .ok (l, hh, m) w) :
    (Instr.sliceAt t (.slice (some a) len c) lo' hi' mx').run P w = .ok (.slice (some (if m = l then a else a.add (l * i.size))) (hh - l) (m - l)) w := by
  simp only [Instr.sliceAt, Sem.run_bind, r_under hu, Result.andThen_ok, Instr.slice, Sem.run_pure, h, r_size hi]
  rw [sl_eq]

theorem take_drop_extract (s : ByteArray) (l h : Nat) (hh : h ≤ s.data.toList.length) : (⟨⟨(s.data.toList.drop l).take (h - l)⟩⟩ : ByteArray) = s.extract l h := by
  apply ByteArray.ext
  apply Array.ext'
  simp [List.extract_eq_take_drop]

theorem slice_sound {P : Program} {φ : Phi} {w : World} {t : TypeId} {x x' v : Value} {lo hi mx lo' hi' mx' : Option Value} (hx : VRel φ x x') (hlo : ORel φ lo lo') (hhi : ORel φ hi hi') (hmx : ORel φ mx mx')
    (h : sliceOp P t x lo hi mx = some v) : ∃ v', (Instr.sliceAt t x' lo' hi' mx').run P w = .ok v' w ∧ VRel φ v v' := by
  unfold sliceOp at h
  split at h
  · rename_i hu
    split at h
    · rename_i s
      cases hx
      have hmx' := hmx.2 rfl
      subst hmx'
      split at h
      · rename_i hh l eh el
        split at h
        · rename_i hc
          injection h with h
          subst h
          have hsz : s.data.toList.length = s.size := by rw [Array.length_toList]; rfl
          have := bounds_run (P := P) (w := w) (isSlice := false) (len := s.size) (cap := s.size) (m := s.size) hlo hhi hmx rfl (by rw [← hsz]; exact eh) el hc.1 (by rw [← hsz]; exact hc.2) (Nat.le_refl _) (.inr rfl)
          refine ⟨.string (s.extract l hh), ?_, ?_⟩
          · simp [Instr.sliceAt, r_under hu, Instr.slice, this]
          · rw [take_drop_extract s l hh hc.2]; exact .string _
        · cases h
      · cases h
    · cases h
  · rename_i n elem hu
    split at h
    · cases hx with
      | ptr _ hb =>
        split at h
        · rename_i i hi2
          split at h
          · rename_i hn
            obtain ⟨l, hh, m, em, eh, el, c1, c2, c3, c4, hv⟩ := sliceBy_sound hb hn h
            have := bounds_run (P := P) (w := w) (isSlice := false) hlo hhi hmx em eh el c1 c2 c3 c4
            exact ⟨_, by simp only [Instr.sliceAt, Sem.run_bind, r_under hu, Result.andThen_ok, Instr.sureAddr, Sem.run_pure, this, r_size hi2], hv⟩
          · cases h
        · cases h
    · cases h
  · rename_i elem hu
    split at h
    · split at h
      · rename_i ie em eh el hs
        split at h
        · rename_i hc
          injection h with h
          subst h
          cases hx
          have := bounds_run (P := P) (w := w) (isSlice := true) hlo hhi hmx em eh el (Nat.le_refl _) (Nat.le_refl _) (Nat.le_refl _) hc
          exact ⟨.slice none 0 0, by simp [Instr.sliceAt, r_under hu, Instr.slice, this, r_size hs], .nilSlice _ _⟩
        · cases h
      · cases h
    · rename_i b o len cap
      split at h
      · rename_i i hi2
        split at h
        · rename_i hcap
          cases hx with
          | slice _ _ _ hb hc =>
            obtain ⟨l, hh, m, em, eh, el, c1, c2, c3, c4, hv⟩ := sliceBy_sound hb hcap h
            have := bounds_run (P := P) (w := w) (isSlice := true) hlo hhi hmx em eh el c1 c2 c3 c4
            exact ⟨_, run_slice' hu hi2 this, hv⟩
          | sliceU _ hb => exact absurd hcap (Nat.lt_irrefl _)
          | sliceV _ _ _ hb => exact absurd hcap (by simp [unk, unkV])
        · rename_i hcap
          split at h
          · cases h
          · rename_i hlu
            have hlu : len < unk := by omega
            split at h
            · rename_i hm
              have key : ∀ {B C c : Nat}, φ b = some (B, C) → len ≤ c → ∃ v', (Instr.sliceAt t (.slice (some ⟨B, o, none⟩) len c) lo' hi' mx').run P w = .ok v' w ∧ VRel φ v v' := by
                intro B C c hb hlc
                obtain ⟨l, hh, m, em, eh, el, c1, c2, c3, c4, hv⟩ := sliceBy_sound hb hlu h
                have em' : boundOr mx c = some m := by
                  cases mx with
                  | none => simp at hm
                  | some y => cases y <;> exact em
                have := bounds_run (P := P) (w := w) (isSlice := true) hlo hhi hmx em' eh el c1 c2 (Nat.le_trans c3 hlc) c4
                exact ⟨_, run_slice' hu hi2 this, hv⟩
              cases hx with
              | slice _ _ _ hb hc => exact absurd hc hcap
              | sliceU _ hb hn => exact key hb hn
              | sliceV _ _ _ hb hn => exact key hb hn
            · rename_i hm
              have hmn : mx = none := by cases mx <;> simp_all
              subst hmn
              split at h
              · rename_i hh l eh el
                split at h
                · rename_i hc
                  have run : ∀ {B c : Nat}, len ≤ c → (Instr.sliceAt t (.slice (some ⟨B, o, none⟩) len c) lo' hi' mx').run P w = .ok (.slice (some (if c = l then ⟨B, o, none⟩ else (⟨B, o, none⟩ : Addr).add (l * i.size))) (hh - l) (c - l)) w := by
                    intro B c hlc
                    have := bounds_run (P := P) (w := w) (isSlice := true) (cap := c) (m := c) hlo hhi hmx rfl eh el hc.1 (by omega) (Nat.le_refl _) (.inr rfl)
                    exact run_slice' hu hi2 this
                  split at h
                  · rename_i hl0
                    injection h with h
                    subst hl0 h
                    have e : ∀ {B c : Nat}, (if c = 0 then (⟨B, o, none⟩ : Addr) else (⟨B, o, none⟩ : Addr).add (0 * i.size)) = ⟨B, o, none⟩ := by
                      intro B c
                      rw [Nat.zero_mul, add_plain]; simp
                    cases hx with
                    | slice _ _ _ hb hcc => exact absurd hcc hcap
                    | sliceU _ hb hn =>
                      refine ⟨_, run hn, ?_⟩
                      rw [e]; simp only [Nat.sub_zero]; exact .sliceU _ hb (by omega)
                    | sliceV _ _ _ hb hn =>
                      refine ⟨_, run hn, ?_⟩
                      rw [e]; simp only [Nat.sub_zero]; exact .sliceV _ _ _ hb (by omega)
                  · split at h
                    · rename_i hll
                      rw [fN_eq, fN_eq] at h
                      injection h with h
                      subst h
                      have key : ∀ {B C c : Nat}, φ b = some (B, C) → len ≤ c → VRel φ (.slice (some ⟨b, o + l * i.size, none⟩) (hh - l) unkV) (.slice (some (if c = l then ⟨B, o, none⟩ else (⟨B, o, none⟩ : Addr).add (l * i.size))) (hh - l) (c - l)) := by
                        intro B C c hb hlc
                        rw [if_neg (by omega), add_plain]
                        exact .sliceV _ _ _ hb (by omega)
                      cases hx with
                      | slice _ _ _ hb hcc => exact absurd hcc hcap
                      | sliceU _ hb hn => exact ⟨_, run hn, key hb hn⟩
                      | sliceV _ _ _ hb hn => exact ⟨_, run hn, key hb hn⟩
                    · cases h
                · cases h
              · cases h
      · cases h
    · cases h
  · cases h

/-! ### len, cap -/
def lenOp (P : Program) (t : TypeId) (x : Value) : Option Value :=
  match P.underlying t with
  | some .string => match x with | .string s => fN s.data.toList.length fun n => some (goInt n) | _ => none
  | some (.slice _) => match x with | .slice _ n _ => some (goInt n) | _ => none
  | some (.array n _) => some (goInt n)
  | _ => none

theorem len_sound {P : Program} {φ : Phi} {w : World} {ts : Array TypeId} {t ty : TypeId} {x x' v : Value} (ht : ts.toList = [t]) (hx : VRel φ x x') (h : lenOp P t x = some v) :
    (Builtin.len_ ts ty #[x']).run P w = .ok v w ∧ VRel φ v v := by
  obtain rfl : ts = #[t] := by cases ts; simp at ht; simp [ht]
  unfold lenOp at h
  split at h
  · rename_i hu
    split at h
    · cases hx
      rw [fN_eq] at h
      injection h with h
      subst h
      refine ⟨?_, .int _ _⟩
      rename_i s
      have hsz : s.data.toList.length = s.size := by rw [Array.length_toList]; rfl
      simp [Builtin.len_, r_under hu]
    · cases h
  · rename_i e hu
    split at h
    · injection h with h
      subst h
      refine ⟨?_, .int _ _⟩
      cases hx <;> simp [Builtin.len_, r_under hu]
    · cases h
  · rename_i n e hu
    injection h with h
    subst h
    refine ⟨?_, .int _ _⟩
    simp [Builtin.len_, r_under hu]
  · cases h

def capOp (P : Program) (t : TypeId) (x : Value) : Option Value :=
  match P.underlying t with
  | some (.slice _) => match x with | .slice _ _ c => if c < unk then some (goInt c) else none | _ => none
  | _ => none

theorem cap_sound {P : Program} {φ : Phi} {w : World} {ts : Array TypeId} {t ty : TypeId} {x x' v : Value} (ht : ts.toList = [t]) (hx : VRel φ x x') (h : capOp P t x = some v) :
    (Builtin.cap_ ts ty #[x']).run P w = .ok v w ∧ VRel φ v v := by
  obtain rfl : ts = #[t] := by cases ts; simp at ht; simp [ht]
  unfold capOp at h
  split at h
  · rename_i e hu
    split at h
    · split at h
      · rename_i hc
        injection h with h
        subst h
        refine ⟨?_, .int _ _⟩
        cases hx with
        | nilSlice => simp [Builtin.cap_, r_under hu]
        | slice _ _ _ hb _ => simp [Builtin.cap_, r_under hu]
        | sliceU _ hb => exact absurd hc (Nat.lt_irrefl _)
        | sliceV _ _ _ hb => exact absurd hc (by simp [unk, unkV])
      · cases h
    · cases h
  · cases h

/-! ### conversions -/
def ints : List Value → Option (List Int)
  | [] => some []
  | .int .u8 n :: r => (ints r).map fun l => n :: l
  | _ :: _ => none

theorem ints_rel {φ : Phi} : ∀ {l l' : List Value} {xs : List Int}, LRel φ l l' → ints l = some xs → l' = xs.map (Value.int .u8) := by
  intro l
  induction l with
  | nil => intro l' xs h e; injection e with e; subst e; rw [h.of_nil]; rfl
  | cons v l ih =>
    intro l' xs h e
    unfold ints at e
    split at e
    · rename_i he; cases he
    · rename_i n r he
      injection he with h1 h2
      subst h1 h2
      simp only [Option.map_eq_some_iff] at e
      obtain ⟨ys, hy, rfl⟩ := e
      obtain ⟨v', r', rfl, hv, hr⟩ := h.of_uncons
      cases hv
      simp [ih hr hy]
    · cases e

def convOp (P : Program) (Ω : Om) (src dst : TypeId) (x : Value) : Option Value :=
  match P.underlying src, P.underlying dst with
  | some _, some (.int k) =>
    match x with
    | .int _ n => mkI k (k.wrap n)
    | _ => none
  | some (.slice e), some .string =>
    match P.underlying e with
    | some (.int .u8) =>
      match x with
      | .slice none _ _ => some (.string ⟨⟨[]⟩⟩)
      | .slice (some ⟨b, o, none⟩) n _ => match rdCells Ω b o n with
        | some l => (ints l).map fun xs => .string ⟨⟨xs.map fun n => UInt8.ofNat n.toNat⟩⟩
        | none => none
      | _ => none
    | _ => none
  | some _, some .string =>
    match x with
    | .string s => some (.string s)
    | _ => none
  | _, _ => none

theorem conv_sound {P : Program} {φ base Ω w} (hr : HRel φ base Ω w) {src dst : TypeId} {x x' v : Value} (hx : VRel φ x x') (h : convOp P Ω src dst x = some v) :
    (convert src dst x').run P w = .ok v w ∧ VRel φ v v := by
  unfold convOp at h
  split at h
  · rename_i ds k hs hd
    split at h
    · rw [mkI_eq] at h
      injection h with h
      subst h
      cases hx
      refine ⟨?_, .int _ _⟩
      simp [convert, r_under hs, r_under hd, Conv.intToInt]
    · cases h
  · rename_i e hs hd
    split at h
    · rename_i he
      split at h
      · injection h with h
        subst h
        cases hx
        exact ⟨run_convert_bytes_nil w src e hs he _ _ dst hd, .string _⟩
      · rename_i b o n c
        split at h
        · rename_i l hl
          simp only [Option.map_eq_some_iff] at h
          obtain ⟨xs, hxs, rfl⟩ := h
          have key : ∀ {B C c : Nat}, φ b = some (B, C) → (convert src dst (.slice (some ⟨B, o, none⟩) n c)).run P w = .ok (.string ⟨⟨xs.map fun n => UInt8.ofNat n.toNat⟩⟩) w := by
            intro B C c hb
            obtain ⟨l', hrel, hlen, hcell⟩ := rd_sound hr hb hl
            have hl' := ints_rel hrel hxs
            subst hl'
            exact run_convert_bytes_arg w src e hs he B o n c xs (by simpa using hlen) (fun i hi => by
              have := hcell i (by rw [hlen]; exact hi)
              rw [this]
              simp at hlen
              simp [List.getD_eq_getElem?_getD, List.getElem?_eq_getElem (show i < xs.length by omega)]) dst hd
          refine ⟨?_, .string _⟩
          cases hx with
          | slice _ _ _ hb => exact key hb
          | sliceU _ hb => exact key hb
          | sliceV _ _ _ hb => exact key hb
        · cases h
      · cases h
    · cases h
  · rename_i ds hs hd
    split at h
    · injection h with h
      subst h
      cases hx
      refine ⟨?_, .string _⟩
      simp only [convert, Sem.run_bind, r_under hs, r_under hd, Result.andThen_ok]
      rfl
    · cases h
  · cases h

end Go.Ev
