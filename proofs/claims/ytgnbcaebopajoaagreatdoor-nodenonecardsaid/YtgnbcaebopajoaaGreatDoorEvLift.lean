/- The row, lifted and proved. -/
import Derived.Test.YtgnbcaebopajoaaGreatDoorEvRow
namespace Go.Proofs.YtgnbcaebopajoaaGreatDoor
open Go.ChangeShapes Go.WideShapes Go.RowKit Go.Ev

/-- The wrap: what is laid AND the world's shape. -/
theorem returnsInHanded_laid_shaped {H : Type} {enc : TypeId × Value → H} {a : Assume} {C : Checked} {os : Os} {f : FuncId} {fn : Func} {s : ChangeSpec} {conds : List PathCond} {apart fresh handsOn again : Bool} {X : World → Array Value → Prop}
    (hX : ∀ (w w' : World) (args : Array Value), w.heap = w'.heap → X w args → X w' args)
    (own : ownKnob C.prog.godebug = none) (started : os.Started) (noInit : C.prog.inits.idxOf? f = none) (hfn : C.prog.funcs[f]? = some fn)
    (witness : ∃ (w : World) (tape : Tape) (i : Input), w.os = os ∧ (w.forCall tape i).Shaped C.prog ∧ i.vars = [] ∧ Input.okWide C.prog (w.forCall tape i) .any w.heap.size f i ∧
      ((s.pre enc C.prog fn conds apart (w.forCall tape i).memory i.args ∧ X (w.forCall tape i).memory i.args) ∧ sizedMet enc C.prog fn (OpenSpec.ofChange s) apart (w.forCall tape i).memory i.args) ∧ a.holds C.prog (lone (Frame.enter C.prog f i.args .normal) [] (w.forCall tape i)))
    (contract : ∀ (W : World) (args : Array Value) (ds gs : List (DataW H)) (before : List MemPlace),
      DataW.Whole enc C.prog fn.params.toList s.vars apart W args.toList ds gs before → X W args → W.ShapedOpen C.prog →
      Calls C.prog f args W fun e W' => ∃ v, e = .returned v ∧ s.post enc C.prog fn apart fresh handsOn again W args v W') :
    ReturnsInHanded a C os f .any (fun w args => (s.pre enc C.prog fn conds apart w args ∧ X w args) ∧ sizedMet enc C.prog fn (OpenSpec.ofChange s) apart w args) (s.post enc C.prog fn apart fresh handsOn again) := by
  refine returnsInHanded_of_calls own started noInit witness ?_
  intro w tape i _ hsh _ hok hpre hholds
  obtain ⟨_, _, _, fn', hfn', _, _, _, _, _⟩ := hok
  have e : fn' = fn := Option.some.inj (hfn'.symm.trans hfn)
  subst e
  obtain ⟨⟨⟨ds, gs, before, hw, hc⟩, hx⟩, hz⟩ := hpre
  have hw' := DataW.Whole.of_heap (w' := w.forCall tape i) (by rfl) hw
  refine (contract (w.forCall tape i) i.args ds gs before hw' (hX _ _ _ (by rfl) hx) hsh).mono fun e W' ⟨v, he, hp⟩ => ?_
  subst he
  exact ChangeSpec.post_blind hp

abbrev laidL : List (String × DataW Unit) := [("math/bits.deBruijn32tab", Rows.laid_math_bits_deBruijn32tab)]

/-- A world that fits: the settled one, the table laid. -/
noncomputable def laidWorld (os : Os) : World :=
  { World.holding Tryz.prog os ⟨#[], #[], []⟩ with heap := (World.holding Tryz.prog os ⟨#[], #[], []⟩).heap.modify 0 fun
      | .cells _ t frozen => .cells ⟨tab⟩ t frozen
      | o => o }

theorem laid_met (os : Os) (args : Array Value) : laidMetH Tryz.prog laidL ((laidWorld os).forCall (fun _ _ => 0) ⟨#[], args, []⟩).memory :=
  laidMet_of_run' (l := laidL) 8 (by kernel_rfl) (by kernel_rfl)

theorem X_heap (w w' : World) (h : w.heap = w'.heap) (hl : laidMetH Tryz.prog laidL w) : laidMetH Tryz.prog laidL w' := hl.of_heap h

set_option maxRecDepth 100000 in
theorem law_lifted (os : Os) (started : os.Started) (H : Type) (enc : TypeId × Value → H) :
    ReturnsInHanded {} Tryz.checked os 3 .any (fun w args => (Rows.nodeNoneSpec.pre enc Tryz.prog Tryz.f3 [] false w args ∧ laidMetH Tryz.prog laidL w) ∧ sizedMet enc Tryz.prog Tryz.f3 (OpenSpec.ofChange Rows.nodeNoneSpec) false w args)
      (Rows.nodeNoneSpec.post enc Tryz.prog Tryz.f3 false true false false) := by
  refine returnsInHanded_laid_shaped (C := Tryz.checked) (X := fun w _ => laidMetH Tryz.prog laidL w) (fun w w' _ hh h => X_heap w w' hh h) own started (by kernel_rfl) Tryz.func3
    (ChangeSpec.witness_at (enc := enc) (C := Tryz.checked) (os := os) (X := fun w _ => laidMetH Tryz.prog laidL w) false (laidWorld os) #[] 8 rfl (by kernel_rfl) (by kernel_rfl) (by kernel_rfl) (by kernel_rfl) (by kernel_rfl) (laid_met os _)) ?_
  intro W args ds gs before hW hL hsh
  have hW' := hW
  obtain ⟨p, q, hA0, hV0, rfl, hfz, hnd⟩ := hW
  have hA : DataW.TrodAll enc Tryz.prog W 0 (fun _ => true) true Tryz.f3.params.toList args.toList ds p := hA0
  have hV : DataW.TrodVars enc Tryz.prog W (fun _ => true) [] gs q := hV0
  have hsh : W.ShapedOpen Tryz.prog := hsh
  rw [Tryz.params3] at hA
  obtain ⟨rfl, rfl, rfl⟩ := trodAll_none hA
  obtain ⟨rfl, rfl⟩ := trodVars_none hV
  -- the table
  have hl : laidMet Tryz.prog laidL W := hL
  have hvar := cells_of_laid hl
  have hrow0 : ∃ cs, W.heap[0]? = some (.cells cs 400 (0, 0)) := by
    cases hx : ((begin Tryz.prog (fun _ _ => 0) default).world.heap[0]?).bind Obj.row? with
    | none => have := tabRow; rw [hx] at this; cases this
    | some x =>
      obtain ⟨zero, t⟩ := x
      have h2 := tabRow
      rw [hx] at h2
      simp only [Option.map_some, Option.some.injEq, Prod.mk.injEq] at h2
      obtain ⟨cs, hh, _, _⟩ := hsh.1 0 zero t (by rw [gSize]; decide) hx
      rw [h2.2] at hh
      exact ⟨cs, hh⟩
  obtain ⟨cs, hcs⟩ := hrow0
  have h0 : W.heap[0]? = some (.cells ⟨tab⟩ 400 (0, 0)) := by
    rw [hcs]
    have : W.var? Tryz.prog "math/bits.deBruijn32tab" = some cs := by simp [World.var?, gTab, hcs]
    rw [hvar] at this
    injection this with this
    rw [← this]
  -- the number
  have hrow1 : ∃ m, W.heap[1]? = some (.cells #[.int .i64 m] 3 (0, 0)) := by
    cases hx : ((begin Tryz.prog (fun _ _ => 0) default).world.heap[1]?).bind Obj.row? with
    | none => have := lenRow; rw [hx] at this; cases this
    | some x =>
      obtain ⟨zero, t⟩ := x
      have h2 := lenRow
      rw [hx] at h2
      simp only [Option.map_some, Option.some.injEq, Prod.mk.injEq] at h2
      obtain ⟨hz, rfl⟩ := h2
      obtain ⟨m, hm⟩ := cell_of_shapedOpen_int (t := 3) (k := .i64) hsh (by rw [gSize]; decide) hx hz (by kernel_rfl) (by kernel_rfl) Tryz.underlying3
      obtain ⟨cs1, hh, hs1, _⟩ := hsh.1 1 zero 3 (by rw [gSize]; decide) hx
      refine ⟨m, ?_⟩
      rw [hh]
      rw [hz] at hs1
      obtain ⟨l1⟩ := cs1
      match l1, hs1 with
      | [v], _ =>
        simp [World.cell?, hh] at hm
        rw [hm]
  obtain ⟨m, h1⟩ := hrow1
  refine (law_walk W h0 h1).mono fun e W' ⟨he, hb⟩ => ?_
  subst he
  exact ⟨_, rfl, [], [], [], [], [], [], hW', trodAll_mk1 (shut_bool Tryz.underlying4 true), rfl, rfl, hb.frame _, fun h => by cases h⟩

end Go.Proofs.YtgnbcaebopajoaaGreatDoor
