/- Operations that only reckon: what the evaluator makes of them, and that the model makes the same. -/
import Derived.Test.YtgnbcaebopajoaaGreatDoorEvMem
namespace Go.Ev
open Go.RowKit

/-! ### Forcing: the kernel reckons a number out before it goes on -/
def fN {α : Type} (n : Nat) (k : Nat → α) : α := match n with | 0 => k 0 | m + 1 => k (Nat.succ m)
def fI {α : Type} (n : Int) (k : Int → α) : α := match n with | .ofNat m => fN m fun m => k (.ofNat m) | .negSucc m => fN m fun m => k (.negSucc m)
def fB {α : Type} (b : Bool) (k : Bool → α) : α := match b with | true => k true | false => k false
theorem fN_eq {α : Type} (n : Nat) (k : Nat → α) : fN n k = k n := by cases n <;> rfl
theorem fI_eq {α : Type} (n : Int) (k : Int → α) : fI n k = k n := by cases n <;> simp [fI, fN_eq]
theorem fB_eq {α : Type} (b : Bool) (k : Bool → α) : fB b k = k b := by cases b <;> rfl

def mkI (k : IntKind) (n : Int) : Option Value := fI n fun n => some (.int k n)
theorem mkI_eq (k : IntKind) (n : Int) : mkI k n = some (.int k n) := fI_eq _ _
def mkB (b : Bool) : Option Value := fB b fun b => some (.bool b)
theorem mkB_eq (b : Bool) : mkB b = some (.bool b) := fB_eq _ _

/-! ### Constants -/
/-- A value without an address. -/
def lit1 : Value → Bool
  | .bool _ | .int .. | .string _ | .pointer none | .slice none _ _ | .map none | .nilFunc | .nilIface => true
  | _ => false
def lit : Value → Bool
  | .agg xs => xs.toList.all lit1
  | .tuple xs => xs.toList.all lit1
  | v => lit1 v

theorem lit1_rel {φ : Phi} {v : Value} (h : lit1 v = true) : VRel φ v v := by
  unfold lit1 at h
  split at h
  · exact .bool _
  · exact .int _ _
  · exact .string _
  · exact .nilPtr
  · exact .nilSlice _ _
  · exact .nilMap
  · exact .nilFunc
  · exact .nilIface
  · cases h
theorem lits_rel {φ : Phi} {xs : Array Value} (hh : xs.toList.all lit1 = true) : ∀ i (h : i < xs.size) (_ : i < xs.size), VRel φ xs[i] xs[i] := by
  intro i h1 _
  rw [List.all_eq_true] at hh
  exact lit1_rel (hh _ (by simp))
theorem lit_rel {φ : Phi} {v : Value} (h : lit v = true) : VRel φ v v := by
  cases v with
  | agg xs => exact .agg xs xs rfl (lits_rel h)
  | tuple xs => exact .tuple xs xs rfl (lits_rel h)
  | _ => exact lit1_rel h

/-! ### The values of operands -/
def evT (T : Tr Value) (t : Nat) : Value := (T.get t).getD undef

def ev (T : Tr Value) (gl : Nat) : Operand → Option Value
  | .tmp t => some (evT T t)
  | .const v => if lit v then some v else none
  | .global g => if g < gl then some (.pointer (some ⟨g, 0, none⟩)) else none
  | .func f => some (.func (.func f) #[] #[])

structure TRel (φ : Phi) (T : Tr Value) (n : Nat) (tmps : Array Value) : Prop where
  size : tmps.size = n
  vals : ∀ t, VRel φ (evT T t) (tmps.getD t undef)

theorem VRel.undef (φ : Phi) : VRel φ Go.undef Go.undef := .tuple _ _ rfl (fun i h => absurd h (by simp))

theorem ev_sound {φ : Phi} {base Ω w} (hr : HRel φ base Ω w) {T : Tr Value} {n : Nat} {a : Act} (ht : TRel φ T n a.tmps) {x : Operand} {v : Value} (h : ev T Ω.gl x = some v) : VRel φ v (a.eval x) := by
  cases x with
  | tmp t => injection h with h; subst h; exact ht.vals t
  | const c =>
    simp only [ev] at h
    split at h
    · rename_i hl; injection h with h; subst h; exact lit_rel hl
    · cases h
  | global g =>
    simp only [ev] at h
    split at h
    · rename_i hl; injection h with h; subst h; exact .ptr 0 (hr.glob g hl)
    · cases h
  | func f =>
    injection h with h; subst h
    exact .func _ _ _ _ _ rfl rfl (fun i h => absurd h (by simp)) (fun i h => absurd h (by simp))

/-! ### Operators on numbers, bools, texts -/
def intOp (op : BinOp) (k : IntKind) (a b : Int) : Option Value :=
  match op with
  | .add => mkI k (k.wrap (a + b))
  | .sub => mkI k (k.wrap (a - b))
  | .mul => mkI k (k.wrap (a * b))
  | .quo => if b = 0 then none else mkI k (k.wrap (a.tdiv b))
  | .rem => if b = 0 then none else mkI k (a.tmod b)
  | .and => mkI k (k.wrap (BitVec.ofInt k.bits a &&& BitVec.ofInt k.bits b).toNat)
  | .or => mkI k (k.wrap (BitVec.ofInt k.bits a ||| BitVec.ofInt k.bits b).toNat)
  | .xor => mkI k (k.wrap (BitVec.ofInt k.bits a ^^^ BitVec.ofInt k.bits b).toNat)
  | .andNot => mkI k (k.wrap (BitVec.ofInt k.bits a &&& ~~~ BitVec.ofInt k.bits b).toNat)
  | .eql => mkB (a == b)
  | .neq => mkB (a != b)
  | .lss => mkB (decide (a < b))
  | .leq => mkB (decide (a ≤ b))
  | .gtr => mkB (decide (a > b))
  | .geq => mkB (decide (a ≥ b))
  | _ => none

def shiftOp (op : BinOp) (k : IntKind) (a b : Int) : Option Value :=
  if b < 0 then none else
  match op with
  | .shl => mkI k (k.wrap (a * 2 ^ (min b.toNat k.bits)))
  | .shr => mkI k (a.fdiv (2 ^ (min b.toNat k.bits)))
  | _ => none

def strOp (op : BinOp) (a b : ByteArray) : Option Value :=
  match op with
  | .eql => mkB (a.toList == b.toList)
  | .neq => mkB (!(a.toList == b.toList))
  | .add => let l := a.data.toList ++ b.data.toList; fN l.length fun n => if n ≤ 1000000 then some (.string ⟨⟨l⟩⟩) else none
  | _ => none

/-- Is the value nil (some v: it is asked against nil)? -/
def nilTest (P : Program) (t : TypeId) : Value → Value → Option Bool
  | .pointer a, .pointer none => match P.underlying t with | some (.pointer _) => some a.isNone | _ => none
  | .pointer none, .pointer b => match P.underlying t with | some (.pointer _) => some b.isNone | _ => none
  | .slice a _ _, .slice none _ _ => match P.underlying t with | some (.slice _) => some a.isNone | _ => none
  | .map a, .map none => match P.underlying t with | some (.map _ _) => some a.isNone | _ => none
  | .bool a, .bool b => match P.underlying t with | some .bool => some (a == b) | _ => none
  | _, _ => none

def isShift : BinOp → Bool
  | .shl | .shr => true
  | _ => false

def binOp (P : Program) (op : BinOp) (t : TypeId) (x y : Value) : Option Value :=
  match x, y with
  | .int k a, .int k' b => if isShift op then shiftOp op k a b else if k = k' then intOp op k a b else none
  | .string a, .string b => strOp op a b
  | x, y => match op with
    | .eql => (nilTest P t x y).bind fun b => mkB b
    | .neq => (nilTest P t x y).bind fun b => mkB (!b)
    | _ => none

theorem run_shift {P : Program} {w : World} {op : BinOp} {k yk : IntKind} {a b : Int} {v : Value} (h : shiftOp op k a b = some v) : (Op.shift op k a yk b).run P w = .ok v w := by
  unfold shiftOp at h
  split at h
  · cases h
  · rename_i hb
    unfold Op.shift
    rw [if_neg hb]
    split at h
    · rw [mkI_eq] at h; injection h with h; subst h; rfl
    · rw [mkI_eq] at h; injection h with h; subst h; rfl
    · cases h

theorem run_intOp {P : Program} {w : World} {op : BinOp} {t : TypeId} {k : IntKind} {a b : Int} {v : Value} (hs : isShift op = false) (h : intOp op k a b = some v) :
    (Go.binOp op t (.int k a) (.int k b)).run P w = .ok v w := by
  cases op <;> simp only [intOp, mkI_eq, mkB_eq, Option.some.injEq, isShift, reduceCtorEq] at h hs <;> (try contradiction)
  all_goals first
    | (subst h; simp [Go.binOp, Op.intArith, Op.intBits, Op.intCmp]; done)
    | (split at h
       · cases h
       · rename_i hb
         rw [Option.some.injEq] at h
         subst h; simp [Go.binOp, Op.intDiv, hb])

theorem str_add (a b : ByteArray) : (⟨⟨a.data.toList ++ b.data.toList⟩⟩ : ByteArray) = a ++ b := by
  apply ByteArray.ext
  apply Array.ext'
  simp [ByteArray.data_append]

theorem run_strOp {P : Program} {w : World} {op : BinOp} {a b : ByteArray} {v : Value} (h : strOp op a b = some v) : (Op.stringOp op a b).run P w = .ok v w := by
  unfold strOp at h
  split at h
  · rw [mkB_eq] at h; injection h with h; subst h; simp [Op.stringOp]
  · rw [mkB_eq] at h; injection h with h; subst h; simp [Op.stringOp]
  · dsimp only at h
    rw [fN_eq] at h
    split at h
    · rename_i hn
      injection h with h
      subst h
      rw [str_add]
      have e : (a.data.toList ++ b.data.toList).length = a.size + b.size := by
        rw [List.length_append, Array.length_toList, Array.length_toList]; rfl
      have hm : IntKind.i64.max = 9223372036854775807 := by decide
      have : ¬ (((a.size + b.size : Nat) : Int) > IntKind.i64.max) := by rw [hm]; omega
      unfold Op.stringOp
      simp only [this, if_false]
      rfl
    · cases h
  · cases h

theorem run_nilTest {P : Program} {w : World} {φ : Phi} {t : TypeId} {x y x' y' : Value} {b : Bool} (hx : VRel φ x x') (hy : VRel φ y y') (h : nilTest P t x y = some b) : (Op.equal t x' y').run P w = .ok b w := by
  obtain ⟨d, hd⟩ : ∃ d, Op.maxDepth = d + 1 := ⟨9999, rfl⟩
  unfold Op.equal
  rw [hd]
  clear hd
  unfold nilTest at h
  split at h
  · rename_i a
    split at h
    · rename_i e hu
      injection h with h; subst h
      cases hy
      cases hx <;> simp [Op.equalIn, underlying, hu]
    · cases h
  · rename_i b2 _
    split at h
    · rename_i e hu
      injection h with h; subst h
      cases hx
      cases hy <;> simp [Op.equalIn, underlying, hu]
    · cases h
  · split at h
    · rename_i e hu
      injection h with h; subst h
      cases hy
      cases hx <;> simp [Op.equalIn, underlying, hu]
    · cases h
  · split at h
    · rename_i e hu
      injection h with h; subst h
      cases hy
      cases hx <;> simp [Op.equalIn, underlying, hu]
    · cases h
  · split at h
    · rename_i hu
      injection h with h; subst h
      cases hy
      cases hx
      simp [Op.equalIn, underlying, hu]
    · cases h
  · cases h

/-- No guard of two nil interfaces stands in the way. -/
def noGuard : Value → Value → Bool
  | .nilIface, .nilIface => false
  | .agg _, .agg _ => false
  | _, _ => true

theorem binOp_sound {P : Program} {w : World} {φ : Phi} {op : BinOp} {t : TypeId} {x y x' y' v : Value} {ox oy : Operand} (hx : VRel φ x x') (hy : VRel φ y y') (h : binOp P op t x y = some v) :
    (do eqGuard op t ox oy x' y'; Go.binOp op t x' y' : Sem Value).run P w = .ok v w ∧ VRel φ v v := by
  unfold binOp at h
  split at h
  · rename_i k a k' b
    cases hx
    cases hy
    have hg : (eqGuard op t ox oy (.int k a) (.int k' b)).run P w = .ok () w := by
      unfold eqGuard; cases op <;> simp
    rw [Sem.run_bind, hg]
    simp only [Result.andThen_ok]
    split at h
    · rename_i hs
      refine ⟨?_, ?_⟩
      · cases op <;> simp only [isShift, Bool.false_eq_true] at hs
        · exact run_shift (yk := k') h
        · exact run_shift (yk := k') h
      · unfold shiftOp at h
        split at h
        · cases h
        · split at h
          · rw [mkI_eq] at h; injection h with h; subst h; exact .int _ _
          · rw [mkI_eq] at h; injection h with h; subst h; exact .int _ _
          · cases h
    · rename_i hs
      split at h
      · rename_i hk
        subst hk
        refine ⟨run_intOp (by simpa using hs) h, ?_⟩
        cases op <;> simp only [intOp, mkI_eq, mkB_eq, Option.some.injEq, reduceCtorEq] at h
        all_goals first
          | (subst h; exact .int _ _)
          | (subst h; exact .bool _)
          | (split at h
             · cases h
             · rw [Option.some.injEq] at h; subst h; exact .int _ _)
      · cases h
  · rename_i a b
    cases hx
    cases hy
    have hg : (eqGuard op t ox oy (.string a) (.string b)).run P w = .ok () w := by
      unfold eqGuard; cases op <;> simp
    rw [Sem.run_bind, hg]
    simp only [Result.andThen_ok]
    refine ⟨?_, ?_⟩
    · have := run_strOp (P := P) (w := w) h
      cases op <;> first | exact this | (simp [strOp] at h)
    · unfold strOp at h
      split at h
      · rw [mkB_eq] at h; injection h with h; subst h; exact .bool _
      · rw [mkB_eq] at h; injection h with h; subst h; exact .bool _
      · dsimp only at h
        rw [fN_eq] at h
        split at h
        · injection h with h; subst h; exact .string _
        · cases h
      · cases h
  · have hd : ∃ b, nilTest P t x y = some b ∧ ((op = .eql ∧ v = .bool b) ∨ (op = .neq ∧ v = .bool (!b))) := by
      split at h
      · cases hn : nilTest P t x y with
        | none => rw [hn] at h; cases h
        | some b => rw [hn] at h; simp [mkB_eq] at h; exact ⟨b, rfl, .inl ⟨rfl, h.symm⟩⟩
      · cases hn : nilTest P t x y with
        | none => rw [hn] at h; cases h
        | some b => rw [hn] at h; simp [mkB_eq] at h; exact ⟨b, rfl, .inr ⟨rfl, h.symm⟩⟩
      · cases h
    obtain ⟨b, hn, hop⟩ := hd
    have he := run_nilTest (w := w) hx hy hn
    have hg : (eqGuard op t ox oy x' y').run P w = .ok () w := by
      unfold nilTest at hn
      unfold eqGuard
      split at hn <;> first | (cases hx <;> cases hy <;> (rcases hop with ⟨rfl, _⟩ | ⟨rfl, _⟩) <;> simp; done) | (cases hn)
    have hb : (Go.binOp op t x' y').run P w = .ok v w := by
      unfold nilTest at hn
      split at hn <;> first | (cases hx <;> cases hy <;> (rcases hop with ⟨rfl, rfl⟩ | ⟨rfl, rfl⟩) <;> simp [Go.binOp, he]; done) | (cases hn)
    rw [Sem.run_bind, hg]
    simp only [Result.andThen_ok]
    refine ⟨hb, ?_⟩
    rcases hop with ⟨_, rfl⟩ | ⟨_, rfl⟩ <;> exact .bool _

end Go.Ev
