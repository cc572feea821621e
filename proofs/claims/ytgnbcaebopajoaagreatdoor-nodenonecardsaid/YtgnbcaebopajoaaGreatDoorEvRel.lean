/- How abstract values and heaps stand for the model's, and the three moves on memory: read, write, new. -/
import Derived.Test.YtgnbcaebopajoaaGreatDoorEvBase
namespace Go.Ev
open Go.RowKit

inductive Blk where
  | row (elem : TypeId) (cs : List Value) (ro : Bool) (grown : Option Nat)
  | map (es : List (Value × Value))
  | iter (m : Nat)

def Blk.isRo : Blk → Bool
  | .row _ _ ro _ => ro
  | .map _ => false
  | .iter _ => false

structure Om where
  gl : Nat
  next : Nat
  h : Tr Blk

abbrev Phi := Nat → Option (Nat × Nat)

/-- A capacity that is not known: of a slice from its block's first cell on; of any other. -/
def unk : Nat := 9223372036854775808
def unkV : Nat := 9223372036854775809

/-- Alike. A channel that is nil stands for some int64 of which nothing more is known. -/
inductive VRel (φ : Phi) : Value → Value → Prop
  | bool (b : Bool) : VRel φ (.bool b) (.bool b)
  | int (k : IntKind) (n : Int) : VRel φ (.int k n) (.int k n)
  | string (s : ByteArray) : VRel φ (.string s) (.string s)
  | someInt (m : Int) : VRel φ (.chan none) (.int .i64 m)
  | nilPtr : VRel φ (.pointer none) (.pointer none)
  | ptr {b B C : Nat} (o : Nat) (hb : φ b = some (B, C)) : VRel φ (.pointer (some ⟨b, o, none⟩)) (.pointer (some ⟨B, o, none⟩))
  | nilSlice (n c : Nat) : VRel φ (.slice none n c) (.slice none n c)
  | slice {b B C : Nat} (o n c : Nat) (hb : φ b = some (B, C)) (hc : c < unk) : VRel φ (.slice (some ⟨b, o, none⟩) n c) (.slice (some ⟨B, o, none⟩) n c)
  | sliceU {b B C : Nat} (n : Nat) (hb : φ b = some (B, C)) (hn : n ≤ C) : VRel φ (.slice (some ⟨b, 0, none⟩) n unk) (.slice (some ⟨B, 0, none⟩) n C)
  | sliceV {b B C : Nat} (o n c : Nat) (hb : φ b = some (B, C)) (hn : n ≤ c) : VRel φ (.slice (some ⟨b, o, none⟩) n unkV) (.slice (some ⟨B, o, none⟩) n c)
  | nilMap : VRel φ (.map none) (.map none)
  | map {b B C : Nat} (hb : φ b = some (B, C)) : VRel φ (.map (some b)) (.map (some B))
  | nilFunc : VRel φ .nilFunc .nilFunc
  | func (fn : Fn) (xs ys xs' ys' : Array Value) (hx : xs.size = xs'.size) (hy : ys.size = ys'.size)
      (h : ∀ i (h : i < xs.size) (h' : i < xs'.size), VRel φ xs[i] xs'[i]) (k : ∀ i (h : i < ys.size) (h' : i < ys'.size), VRel φ ys[i] ys'[i]) :
      VRel φ (.func fn xs ys) (.func fn xs' ys')
  | nilIface : VRel φ .nilIface .nilIface
  | iface (t : TypeId) (v v' : Value) (h : VRel φ v v') : VRel φ (.iface t v) (.iface t v')
  | agg (xs xs' : Array Value) (hx : xs.size = xs'.size) (h : ∀ i (h : i < xs.size) (h' : i < xs'.size), VRel φ xs[i] xs'[i]) : VRel φ (.agg xs) (.agg xs')
  | tuple (xs xs' : Array Value) (hx : xs.size = xs'.size) (h : ∀ i (h : i < xs.size) (h' : i < xs'.size), VRel φ xs[i] xs'[i]) : VRel φ (.tuple xs) (.tuple xs')

/-- Lists of values, place by place. -/
def LRel (φ : Phi) (xs ys : List Value) : Prop := xs.length = ys.length ∧ ∀ i (h : i < xs.length) (h' : i < ys.length), VRel φ xs[i] ys[i]

def Ext (φ φ' : Phi) : Prop := ∀ b x, φ b = some x → φ' b = some x
theorem Ext.refl (φ : Phi) : Ext φ φ := fun _ _ h => h
theorem Ext.trans {a b c : Phi} (h : Ext a b) (k : Ext b c) : Ext a c := fun x y e => k x y (h x y e)

theorem VRel.mono {φ φ' : Phi} (he : Ext φ φ') {v v' : Value} (h : VRel φ v v') : VRel φ' v v' := by
  induction h with
  | bool b => exact .bool b
  | int k n => exact .int k n
  | string s => exact .string s
  | someInt m => exact .someInt m
  | nilPtr => exact .nilPtr
  | ptr o hb => exact .ptr o (he _ _ hb)
  | nilSlice n c => exact .nilSlice n c
  | slice o n c hb hc => exact .slice o n c (he _ _ hb) hc
  | sliceU n hb hn => exact .sliceU n (he _ _ hb) hn
  | sliceV o n c hb hn => exact .sliceV o n c (he _ _ hb) hn
  | nilMap => exact .nilMap
  | map hb => exact .map (he _ _ hb)
  | nilFunc => exact .nilFunc
  | func fn xs ys xs' ys' hx hy _ _ ih1 ih2 => exact .func fn xs ys xs' ys' hx hy ih1 ih2
  | nilIface => exact .nilIface
  | iface t v v' _ ih => exact .iface t v v' ih
  | agg xs xs' hx _ ih => exact .agg xs xs' hx ih
  | tuple xs xs' hx _ ih => exact .tuple xs xs' hx ih

theorem LRel.mono {φ φ' : Phi} (he : Ext φ φ') {v v' : List Value} (h : LRel φ v v') : LRel φ' v v' := ⟨h.1, fun i h1 h2 => (h.2 i h1 h2).mono he⟩

theorem LRel.nil (φ : Phi) : LRel φ [] [] := ⟨rfl, fun i h => absurd h (by simp)⟩
theorem LRel.cons {φ : Phi} {v v' : Value} {l l' : List Value} (h : VRel φ v v') (k : LRel φ l l') : LRel φ (v :: l) (v' :: l') := by
  refine ⟨by simp [k.1], fun i h1 h2 => ?_⟩
  cases i with
  | zero => exact h
  | succ i => exact k.2 i (by simpa using h1) (by simpa using h2)
theorem LRel.append {φ : Phi} {a a' b b' : List Value} (h : LRel φ a a') (k : LRel φ b b') : LRel φ (a ++ b) (a' ++ b') := by
  refine ⟨by simp [h.1, k.1], fun i h1 h2 => ?_⟩
  by_cases hi : i < a.length
  · rw [List.getElem_append_left hi, List.getElem_append_left (by rw [← h.1]; exact hi)]
    exact h.2 i hi _
  · have hi' : ¬ i < a'.length := by rw [← h.1]; exact hi
    rw [List.getElem_append_right (by omega), List.getElem_append_right (by omega)]
    have := k.2 (i - a.length) (by simp at h1; omega) (by simp at h2; have := h.1; omega)
    simpa [h.1] using this
theorem LRel.take {φ : Phi} {a a' : List Value} (h : LRel φ a a') (n : Nat) : LRel φ (a.take n) (a'.take n) := by
  refine ⟨by simp [h.1], fun i h1 h2 => ?_⟩
  simp only [List.getElem_take]
  exact h.2 _ _ _
theorem LRel.drop {φ : Phi} {a a' : List Value} (h : LRel φ a a') (n : Nat) : LRel φ (a.drop n) (a'.drop n) := by
  refine ⟨by simp [h.1], fun i h1 h2 => ?_⟩
  simp only [List.getElem_drop]
  exact h.2 _ _ _
theorem LRel.of_uncons {φ : Phi} {v : Value} {l l' : List Value} (h : LRel φ (v :: l) l') : ∃ v' r, l' = v' :: r ∧ VRel φ v v' ∧ LRel φ l r := by
  cases l' with
  | nil => exact absurd h.1 (by simp)
  | cons v' r =>
    refine ⟨v', r, rfl, h.2 0 (by simp) (by simp), by have := h.1; simpa using this, fun i h1 h2 => ?_⟩
    exact h.2 (i + 1) (by simpa using h1) (by simpa using h2)
theorem LRel.of_nil {φ : Phi} {l' : List Value} (h : LRel φ [] l') : l' = [] := by
  cases l' with
  | nil => rfl
  | cons v r => exact absurd h.1 (by simp)
theorem LRel.agg {φ : Phi} {xs xs' : List Value} (h : LRel φ xs xs') : VRel φ (.agg ⟨xs⟩) (.agg ⟨xs'⟩) := .agg _ _ (by simpa using h.1) (fun i h1 h2 => by simpa using h.2 i (by simpa using h1) (by simpa using h2))
theorem LRel.of_agg {φ : Phi} {xs : Array Value} {v : Value} (h : VRel φ (.agg xs) v) : ∃ xs', v = .agg xs' ∧ LRel φ xs.toList xs'.toList := by
  cases h with
  | agg xs xs' hx h => exact ⟨xs', rfl, by simpa using hx, fun i h1 h2 => by simpa using h i (by simpa using h1) (by simpa using h2)⟩

theorem LRel.tuple {φ : Phi} {xs xs' : List Value} (h : LRel φ xs xs') : VRel φ (.tuple ⟨xs⟩) (.tuple ⟨xs'⟩) := .tuple _ _ (by simpa using h.1) (fun i h1 h2 => by simpa using h.2 i (by simpa using h1) (by simpa using h2))
theorem LRel.of_tuple {φ : Phi} {xs : Array Value} {v : Value} (h : VRel φ (.tuple xs) v) : ∃ xs', v = .tuple xs' ∧ LRel φ xs.toList xs'.toList := by
  cases h with
  | tuple xs xs' hx h => exact ⟨xs', rfl, by simpa using hx, fun i h1 h2 => by simpa using h i (by simpa using h1) (by simpa using h2)⟩
theorem LRel.of_func {φ : Phi} {fn : Fn} {xs ys : Array Value} {v : Value} (h : VRel φ (.func fn xs ys) v) : ∃ xs' ys', v = .func fn xs' ys' ∧ LRel φ xs.toList xs'.toList ∧ LRel φ ys.toList ys'.toList := by
  cases h with
  | func _ _ _ xs' ys' hx hy h k => exact ⟨xs', ys', rfl, ⟨by simpa using hx, fun i h1 h2 => by simpa using h i (by simpa using h1) (by simpa using h2)⟩, ⟨by simpa using hy, fun i h1 h2 => by simpa using k i (by simpa using h1) (by simpa using h2)⟩⟩
theorem LRel.func {φ : Phi} (fn : Fn) {xs xs' ys ys' : List Value} (h : LRel φ xs xs') (k : LRel φ ys ys') : VRel φ (.func fn ⟨xs⟩ ⟨ys⟩) (.func fn ⟨xs'⟩ ⟨ys'⟩) :=
  .func _ _ _ _ _ (by simpa using h.1) (by simpa using k.1) (fun i h1 h2 => by simpa using h.2 i (by simpa using h1) (by simpa using h2)) (fun i h1 h2 => by simpa using k.2 i (by simpa using h1) (by simpa using h2))

/-- A value of one cell. -/
theorem VRel.oneCell {φ : Phi} {v v' : Value} (h : VRel φ v v') : v'.oneCell' = v.oneCell' := by cases h <;> rfl

theorem LRel.cells {φ : Phi} {v v' : Value} (h : VRel φ v v') : LRel φ v.cells.toList v'.cells.toList := by
  by_cases hv : ∃ xs, v = .agg xs
  · obtain ⟨xs, rfl⟩ := hv
    obtain ⟨xs', rfl, hl⟩ := LRel.of_agg h
    exact hl
  · have e1 : v.cells = #[v] := by cases v <;> first | rfl | exact absurd ⟨_, rfl⟩ hv
    have e2 : v'.cells = #[v'] := by cases h <;> first | rfl | exact absurd ⟨_, rfl⟩ hv
    rw [e1, e2]
    exact .cons h (.nil φ)

/-! ### Heaps -/
structure RowAt (φ : Phi) (base : Nat) (w : World) (b : Nat) (elem : TypeId) (cs : List Value) (ro : Bool) (g : Option Nat) (B C : Nat) (CS : Array Value) (fz : Nat × Nat) : Prop where
  phi : φ b = some (B, C)
  heap : w.heap[B]? = some (.cells CS elem fz)
  free : ∀ i, i < CS.size → ¬ (fz.1 ≤ i ∧ i < fz.2)
  vals : ∀ i (h : i < cs.length), ∃ h' : i < CS.size, VRel φ cs[i] CS[i]
  own : ro = false → base ≤ B
  grown : ∀ k, g = some k → CS.size = C * k

/-- The entries' marks: they grow, and none has the clock's. -/
def Borns (l : List Nat) (clock : Nat) : Prop := l.Pairwise (· < ·) ∧ ∀ b ∈ l, b < clock

theorem Borns.push {l : List Nat} {clock : Nat} (h : Borns l clock) : Borns (l ++ [clock]) (clock + 1) := by
  refine ⟨List.pairwise_append.2 ⟨h.1, List.pairwise_singleton _ _, fun a ha b hb => ?_⟩, fun b hb => ?_⟩
  · rw [List.mem_singleton.1 hb]; exact h.2 a ha
  · rcases List.mem_append.1 hb with hb | hb
    · have := h.2 b hb; omega
    · rw [List.mem_singleton.1 hb]; omega

/-- A map's object: its entries in the order in which they came. -/
structure MapAt (φ : Phi) (base : Nat) (w : World) (b : Nat) (es : List (Value × Value)) (B C : Nat) (ents : Array MapEntry) (clock : Nat) : Prop where
  phi : φ b = some (B, C)
  heap : w.heap[B]? = some (.map ents clock)
  keys : LRel φ (es.map (·.1)) (ents.toList.map (·.key))
  vals : LRel φ (es.map (·.2)) (ents.toList.map (·.val))
  own : base ≤ B
  born : Borns (ents.toList.map (·.born)) clock

/-- An iterator over a map that has not moved yet. -/
structure IterAt (φ : Phi) (base : Nat) (w : World) (b m : Nat) (B C M D since last : Nat) : Prop where
  phi : φ b = some (B, C)
  phiM : φ m = some (M, D)
  heap : w.heap[B]? = some (.mapIter (some M) since #[] last)
  own : base ≤ B

def ObjAt (φ : Phi) (base : Nat) (w : World) (b : Nat) : Blk → Prop
  | .row elem cs ro g => ∃ B C CS fz, RowAt φ base w b elem cs ro g B C CS fz
  | .map es => ∃ B C ents clock, MapAt φ base w b es B C ents clock
  | .iter m => ∃ B C M D since last, IterAt φ base w b m B C M D since last

structure HRel (φ : Phi) (base : Nat) (Ω : Om) (w : World) : Prop where
  fresh : ∀ b, Ω.next ≤ b → φ b = none
  lim : Ω.next ≤ Tr.most
  glob : ∀ g, g < Ω.gl → φ g = some (g, 0)
  size : base ≤ w.heap.size
  bound : ∀ b B C, φ b = some (B, C) → B < w.heap.size
  obj : ∀ b x, Ω.h.get b = some x → ObjAt φ base w b x
  glo : ∀ b x B C, Ω.h.get b = some x → x.isRo = true → φ b = some (B, C) → B < base
  inj : ∀ b1 b2 x1 x2 B C1 C2, Ω.h.get b1 = some x1 → Ω.h.get b2 = some x2 → φ b1 = some (B, C1) → φ b2 = some (B, C2) → b1 = b2

theorem HRel.row {φ base Ω w} (hr : HRel φ base Ω w) (b : Nat) (elem : TypeId) (cs : List Value) (ro : Bool) (g : Option Nat) (h : Ω.h.get b = some (.row elem cs ro g)) : ∃ B C CS fz, RowAt φ base w b elem cs ro g B C CS fz := hr.obj b _ h

theorem ObjAt.live {φ base w b x} (h : ObjAt φ base w b x) : ∃ B C, φ b = some (B, C) := by
  cases x with
  | row elem cs ro g => obtain ⟨B, C, CS, fz, ra⟩ := h; exact ⟨B, C, ra.phi⟩
  | map es => obtain ⟨B, C, e, c, ra⟩ := h; exact ⟨B, C, ra.phi⟩
  | iter m => obtain ⟨B, C, M, D, e, c, ra⟩ := h; exact ⟨B, C, ra.phi⟩

theorem HRel.live {φ base Ω w} (hr : HRel φ base Ω w) (b : Nat) (x : Blk) (h : Ω.h.get b = some x) : ∃ B C, φ b = some (B, C) := (hr.obj b x h).live

theorem ObjAt.base {φ base w b x} (h : ObjAt φ base w b x) (hx : x.isRo = false) {B C : Nat} (hb : φ b = some (B, C)) : base ≤ B := by
  cases x with
  | row elem cs ro g =>
    obtain ⟨B', C', CS, fz, ra⟩ := h
    have e := ra.phi
    rw [hb] at e
    injection e with e
    injection e with e1 e2
    have := ra.own hx
    omega
  | map es =>
    obtain ⟨B', C', e', c, ra⟩ := h
    have e := ra.phi
    rw [hb] at e
    injection e with e
    injection e with e1 e2
    have := ra.own
    omega
  | iter m =>
    obtain ⟨B', C', M, D, e', c, ra⟩ := h
    have e := ra.phi
    rw [hb] at e
    injection e with e
    injection e with e1 e2
    have := ra.own
    omega

/-- What stands at a block that has not turned stands there under more names too. -/
theorem ObjAt.move {φ φ' : Phi} {base : Nat} {w w' : World} {b : Nat} {x : Blk} (h : ObjAt φ base w b x) (he : Ext φ φ') (hh : ∀ B C, φ b = some (B, C) → w'.heap[B]? = w.heap[B]?) : ObjAt φ' base w' b x := by
  cases x with
  | row elem cs ro g =>
    obtain ⟨B, C, CS, fz, ra⟩ := h
    refine ⟨B, C, CS, fz, he _ _ ra.phi, by rw [hh B C ra.phi]; exact ra.heap, ra.free, fun i hi => ?_, ra.own, ra.grown⟩
    obtain ⟨h1, h2⟩ := ra.vals i hi
    exact ⟨h1, h2.mono he⟩
  | map es =>
    obtain ⟨B, C, e, c, ra⟩ := h
    exact ⟨B, C, e, c, he _ _ ra.phi, by rw [hh B C ra.phi]; exact ra.heap, ra.keys.mono he, ra.vals.mono he, ra.own, ra.born⟩
  | iter m =>
    obtain ⟨B, C, M, D, e, c, ra⟩ := h
    exact ⟨B, C, M, D, e, c, he _ _ ra.phi, he _ _ ra.phiM, by rw [hh B C ra.phi]; exact ra.heap, ra.own⟩

def Img (φ : Phi) (Ω : Om) (B : Nat) : Prop := ∃ b C x, Ω.h.get b = some x ∧ x.isRo = false ∧ φ b = some (B, C)

/-- From the base on, what is no image of what may be written is no image at all. -/
theorem HRel.free {φ base Ω w} (hr : HRel φ base Ω w) {B : Nat} (hB : base ≤ B) (hi : ¬ Img φ Ω B) : ∀ b x C, Ω.h.get b = some x → φ b ≠ some (B, C) := by
  intro b x C h e
  cases hx : x.isRo with
  | true => have := hr.glo b x B C h hx e; omega
  | false => exact hi ⟨b, C, x, h, hx, e⟩

structure Stp (φ : Phi) (Ω : Om) (w : World) (φ' : Phi) (Ω' : Om) (w' : World) : Prop where
  ext : Ext φ φ'
  old : ∀ b, b < Ω.next → φ' b = φ b
  nxt : Ω.next ≤ Ω'.next
  size : w.heap.size ≤ w'.heap.size
  tape : w'.tape = w.tape
  os : w'.os = w.os
  output : w'.output = w.output
  keep : ∀ B, B < w.heap.size → ¬ Img φ Ω B → w'.heap[B]? = w.heap[B]? ∧ ¬ Img φ' Ω' B

theorem Stp.refl (φ : Phi) (Ω : Om) (w : World) : Stp φ Ω w φ Ω w := ⟨Ext.refl φ, fun _ _ => rfl, Nat.le_refl _, Nat.le_refl _, rfl, rfl, rfl, fun _ _ h => ⟨rfl, h⟩⟩
theorem Stp.trans {φ Ω w φ1 Ω1 w1 φ2 Ω2 w2} (h : Stp φ Ω w φ1 Ω1 w1) (k : Stp φ1 Ω1 w1 φ2 Ω2 w2) : Stp φ Ω w φ2 Ω2 w2 :=
  ⟨h.ext.trans k.ext, fun b hb => (k.old b (Nat.lt_of_lt_of_le hb h.nxt)).trans (h.old b hb), Nat.le_trans h.nxt k.nxt, Nat.le_trans h.size k.size, k.tape.trans h.tape, k.os.trans h.os, k.output.trans h.output, fun B hB hi => by
    obtain ⟨e1, n1⟩ := h.keep B hB hi
    obtain ⟨e2, n2⟩ := k.keep B (Nat.lt_of_lt_of_le hB h.size) n1
    exact ⟨e2.trans e1, n2⟩⟩

/-- Below the base nothing turns. -/
theorem Stp.below {φ : Phi} {Ω w φ' Ω' w' base} (h : Stp φ Ω w φ' Ω' w') (hr : HRel φ base Ω w) : Below base w w' := by
  refine ⟨h.os, h.tape, h.output, h.size, fun k hk => ?_⟩
  refine (h.keep k (Nat.lt_of_lt_of_le hk hr.size) ?_).1
  rintro ⟨b, C, x, hg, hx, hp⟩
  have := (hr.obj b x hg).base hx hp
  omega

/-- A draw turns nothing of it. -/
def SameHeap (w w' : World) : Prop := w'.heap = w.heap ∧ w'.tape = w.tape ∧ w'.os = w.os ∧ w'.output = w.output
theorem SameHeap.refl (w : World) : SameHeap w w := ⟨rfl, rfl, rfl, rfl⟩
theorem HRel.same {φ base Ω w w'} (h : HRel φ base Ω w) (e : SameHeap w w') : HRel φ base Ω w' := by
  obtain ⟨e, _, _, _⟩ := e
  exact ⟨h.fresh, h.lim, h.glob, by rw [e]; exact h.size, by rw [e]; exact h.bound, fun b x hb => (h.obj b x hb).move (Ext.refl φ) (fun B C _ => by rw [e]), h.glo, h.inj⟩
theorem Stp.same {φ : Phi} {Ω w w'} (e : SameHeap w w') : Stp φ Ω w φ Ω w' := by
  obtain ⟨e, e1, e2, e3⟩ := e
  exact ⟨Ext.refl φ, fun _ _ => rfl, Nat.le_refl _, by rw [e]; exact Nat.le_refl _, e1, e2, e3, fun B _ h => ⟨by rw [e], h⟩⟩

/-! ### Reading -/
def rdCells (Ω : Om) (b o n : Nat) : Option (List Value) :=
  match Ω.h.get b with
  | some (.row _ cs _ _) =>
    let l := (cs.drop o).take n
    if l.length = n then some l else none
  | _ => none

theorem cell_at {w : World} {B o : Nat} {CS : Array Value} {e : TypeId} {fz : Nat × Nat} (h : w.heap[B]? = some (.cells CS e fz)) : w.cell? ⟨B, o, none⟩ = CS[o]? := by
  simp [World.cell?, h]

theorem add_plain (B o j : Nat) : (⟨B, o, none⟩ : Addr).add j = ⟨B, o + j, none⟩ := by
  unfold Addr.add; split <;> simp_all

theorem rd_sound {φ base Ω w} (hr : HRel φ base Ω w) {b B C o n : Nat} {l : List Value} (hb : φ b = some (B, C)) (h : rdCells Ω b o n = some l) :
    ∃ l', LRel φ l l' ∧ l'.length = n ∧ ∀ j (hj : j < l'.length), w.cell? ⟨B, o + j, none⟩ = some l'[j] := by
  unfold rdCells at h
  split at h
  · rename_i elem cs ro g hg
    dsimp only at h
    split at h
    · rename_i hl
      injection h with h
      subst h
      obtain ⟨B', C', CS, fz, ra⟩ := hr.row _ _ _ _ _ hg
      have e := ra.phi
      rw [hb] at e
      injection e with e
      injection e with e1 e2
      subst e1
      have hlen : n + o ≤ cs.length ∨ n = 0 := by
        rw [List.length_take, List.length_drop] at hl
        omega
      have hsz : ∀ j, j < n → ∃ h : o + j < cs.length, ∃ h' : o + j < CS.size, VRel φ cs[o + j] CS[o + j] := by
        intro j hj
        have h1 : o + j < cs.length := by omega
        obtain ⟨h2, h3⟩ := ra.vals (o + j) h1
        exact ⟨h1, h2, h3⟩
      refine ⟨(CS.toList.drop o).take n, ⟨?_, ?_⟩, ?_, ?_⟩
      · rw [hl, List.length_take, List.length_drop]
        rcases Nat.eq_zero_or_pos n with h0 | h0
        · simp [h0]
        · obtain ⟨_, h2, _⟩ := hsz (n - 1) (by omega)
          simp; omega
      · intro i h1 h2
        simp only [List.getElem_take, List.getElem_drop, Array.getElem_toList]
        have hi : i < n := by simp at h1; omega
        obtain ⟨_, _, h⟩ := hsz i hi
        exact h
      · rw [List.length_take, List.length_drop]
        rcases Nat.eq_zero_or_pos n with h0 | h0
        · simp [h0]
        · obtain ⟨_, h2, _⟩ := hsz (n - 1) (by omega)
          simp; omega
      · intro j hj
        rw [cell_at ra.heap]
        simp only [List.getElem_take, List.getElem_drop, Array.getElem_toList]
        have hi : j < n := by simp at hj; omega
        obtain ⟨_, h2, _⟩ := hsz j hi
        simp [h2]
    · cases h
  · cases h

end Go.Ev
