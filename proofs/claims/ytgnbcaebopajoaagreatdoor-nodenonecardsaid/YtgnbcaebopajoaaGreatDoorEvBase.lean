/- The abstract heap of the evaluator: tries, blocks, and how abstract values and heaps stand for the model's. -/
import Derived.Calls
import Derived.Laws.Sem
import Derived.Below
namespace Go.Ev

/-! ### A trie over numbers -/
inductive Tr (α : Type) where
  | nil
  | node (l : Tr α) (v : Option α) (r : Tr α)

namespace Tr
variable {α : Type}

def getF : Nat → Tr α → Nat → Option α
  | 0, _, _ => none
  | _ + 1, .nil, _ => none
  | f + 1, .node l v r, n =>
    match n with
    | 0 => v
    | k + 1 =>
      match Nat.beq (Nat.mod k 2) 0 with
      | true => getF f l (Nat.div k 2)
      | false => getF f r (Nat.div k 2)

def setF : Nat → Tr α → Nat → Option α → Tr α
  | 0, t, _, _ => t
  | f + 1, .nil, n, x =>
    match n with
    | 0 => .node .nil x .nil
    | k + 1 =>
      match Nat.beq (Nat.mod k 2) 0 with
      | true => .node (setF f .nil (Nat.div k 2) x) none .nil
      | false => .node .nil none (setF f .nil (Nat.div k 2) x)
  | f + 1, .node l v r, n, x =>
    match n with
    | 0 => .node l x r
    | k + 1 =>
      match Nat.beq (Nat.mod k 2) 0 with
      | true => .node (setF f l (Nat.div k 2) x) v r
      | false => .node l v (setF f r (Nat.div k 2) x)

theorem getF_nil (f n : Nat) : getF f (Tr.nil : Tr α) n = none := by cases f <;> rfl

theorem beq_mod (k : Nat) : Nat.beq (Nat.mod k 2) 0 = true ↔ k % 2 = 0 := by
  rw [Nat.beq_eq]; rfl
theorem beq_mod' (k : Nat) : Nat.beq (Nat.mod k 2) 0 = false ↔ k % 2 = 1 := by
  have h := beq_mod k
  cases hb : Nat.beq (Nat.mod k 2) 0 with
  | true => simp [hb] at h; simp; omega
  | false => simp [hb] at h; simp; omega

theorem getF_setF (f : Nat) : ∀ (t : Tr α) (n m : Nat) (x : Option α), n + 1 < 2 ^ f →
    getF f (setF f t n x) m = if m = n then x else getF f t m := by
  induction f with
  | zero => intro t n m x h; simp at h
  | succ f ih =>
    intro t n m x h
    have hk : ∀ k, k + 2 < 2 ^ (f + 1) → Nat.div k 2 + 1 < 2 ^ f := by
      intro k hk
      rw [Nat.pow_succ] at hk
      show k / 2 + 1 < _
      omega
    cases t with
    | nil =>
      cases n with
      | zero => cases m with
        | zero => simp [setF, getF]
        | succ m =>
          simp only [setF, getF, getF_nil]
          split <;> simp
      | succ k =>
        have hk := hk k h
        cases hb : Nat.beq (Nat.mod k 2) 0 with
        | true =>
          simp only [setF, hb]
          cases m with
          | zero => simp [getF]
          | succ m =>
            cases hc : Nat.beq (Nat.mod m 2) 0 with
            | true =>
              simp only [getF, hc, ih _ _ _ _ hk, getF_nil]
              have h1 := (beq_mod k).1 hb
              have h2 := (beq_mod m).1 hc
              have : (Nat.div m 2 = Nat.div k 2) ↔ (m + 1 = k + 1) := by
                show m / 2 = k / 2 ↔ _
                omega
              simp only [this]
            | false =>
              simp only [getF, hc, getF_nil]
              have h1 := (beq_mod k).1 hb
              have h2 := (beq_mod' m).1 hc
              rw [if_neg (by omega)]
        | false =>
          simp only [setF, hb]
          cases m with
          | zero => simp [getF]
          | succ m =>
            cases hc : Nat.beq (Nat.mod m 2) 0 with
            | true =>
              simp only [getF, hc, getF_nil]
              have h1 := (beq_mod' k).1 hb
              have h2 := (beq_mod m).1 hc
              rw [if_neg (by omega)]
            | false =>
              simp only [getF, hc, ih _ _ _ _ hk, getF_nil]
              have h1 := (beq_mod' k).1 hb
              have h2 := (beq_mod' m).1 hc
              have : (Nat.div m 2 = Nat.div k 2) ↔ (m + 1 = k + 1) := by
                show m / 2 = k / 2 ↔ _
                omega
              simp only [this]
    | node l v r =>
      cases n with
      | zero => cases m with
        | zero => simp [setF, getF]
        | succ m =>
          simp only [setF, getF]
          simp
      | succ k =>
        have hk := hk k h
        cases hb : Nat.beq (Nat.mod k 2) 0 with
        | true =>
          simp only [setF, hb]
          cases m with
          | zero => simp [getF]
          | succ m =>
            cases hc : Nat.beq (Nat.mod m 2) 0 with
            | true =>
              simp only [getF, hc, ih _ _ _ _ hk]
              have h1 := (beq_mod k).1 hb
              have h2 := (beq_mod m).1 hc
              have : (Nat.div m 2 = Nat.div k 2) ↔ (m + 1 = k + 1) := by
                show m / 2 = k / 2 ↔ _
                omega
              simp only [this]
            | false =>
              simp only [getF, hc]
              have h1 := (beq_mod k).1 hb
              have h2 := (beq_mod' m).1 hc
              rw [if_neg (by omega)]
        | false =>
          simp only [setF, hb]
          cases m with
          | zero => simp [getF]
          | succ m =>
            cases hc : Nat.beq (Nat.mod m 2) 0 with
            | true =>
              simp only [getF, hc]
              have h1 := (beq_mod' k).1 hb
              have h2 := (beq_mod m).1 hc
              rw [if_neg (by omega)]
            | false =>
              simp only [getF, hc, ih _ _ _ _ hk]
              have h1 := (beq_mod' k).1 hb
              have h2 := (beq_mod' m).1 hc
              have : (Nat.div m 2 = Nat.div k 2) ↔ (m + 1 = k + 1) := by
                show m / 2 = k / 2 ↔ _
                omega
              simp only [this]

/-- The depth of every trie here. -/
def dep : Nat := 24
def get (t : Tr α) (n : Nat) : Option α := getF dep t n
def set (t : Tr α) (n : Nat) (x : Option α) : Tr α := setF dep t n x
def most : Nat := 16000000
theorem get_set (t : Tr α) (n m : Nat) (x : Option α) (h : n < most) : (t.set n x).get m = if m = n then x else t.get m :=
  getF_setF dep t n m x (by unfold most at h; unfold dep; omega)
theorem get_nil (n : Nat) : (Tr.nil : Tr α).get n = none := getF_nil _ _
end Tr
end Go.Ev
