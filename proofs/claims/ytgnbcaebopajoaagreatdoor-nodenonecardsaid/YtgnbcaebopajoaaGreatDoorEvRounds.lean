/- Ranging over a map whose entries are known: each order; and a call with memory held still, of which only a pointer comes back. -/
import Derived.Test.YtgnbcaebopajoaaGreatDoorEvRun
import Derived.Maps.RangeRun
namespace Go.Ev
open Go.RowKit Go.ChangeMaps

/-! ### An object of which the evaluator knows only that it is -/
theorem newHid_sound {φ base Ω w} (hr : HRel φ base Ω w) (hlim : Ω.next < Tr.most) (w' : World) {B : Nat} (hB : B < w'.heap.size) (hsz : w.heap.size ≤ w'.heap.size) (hold : ∀ k, k < w.heap.size → w'.heap[k]? = w.heap[k]?)
    (ht : w'.tape = w.tape) (ho : w'.os = w.os) (hou : w'.output = w.output) :
    HRel (upd φ Ω.next (B, 0)) base { Ω with next := Ω.next + 1 } w' ∧ Stp φ Ω w (upd φ Ω.next (B, 0)) { Ω with next := Ω.next + 1 } w' ∧ upd φ Ω.next (B, 0) Ω.next = some (B, 0) := by
  have hf := hr.fresh Ω.next (Nat.le_refl _)
  have hext : Ext φ (upd φ Ω.next (B, 0)) := upd_ext hf
  have hne : ∀ b x, Ω.h.get b = some x → b ≠ Ω.next := by
    intro b x hg e
    obtain ⟨B', C', hp⟩ := hr.live b x hg
    rw [e, hf] at hp; cases hp
  have hup : ∀ b, b ≠ Ω.next → upd φ Ω.next (B, 0) b = φ b := fun b hb => by unfold upd; rw [if_neg hb]
  refine ⟨⟨?_, ?_, fun g hg => hext _ _ (hr.glob g hg), ?_, ?_, ?_, ?_, ?_⟩, ⟨hext, fun b hb => hup b (by omega), Nat.le_succ _, hsz, ht, ho, hou, ?_⟩, by simp [upd]⟩
  · intro b hb
    have hb' : Ω.next + 1 ≤ b := hb
    rw [hup b (by omega)]
    exact hr.fresh b (by omega)
  · show Ω.next + 1 ≤ _
    omega
  · have := hr.size; omega
  · intro b B1 C1 hb
    by_cases e : b = Ω.next
    · subst e
      simp only [upd, if_true] at hb
      injection hb with hb; injection hb with h1 h2; omega
    · rw [hup b e] at hb
      have := hr.bound _ _ _ hb; omega
  · intro b x hb
    exact (hr.obj b x hb).move hext fun B1 C1 e => hold _ (hr.bound _ _ _ e)
  · intro b x B1 C1 hb hx e
    rw [hup b (hne b x hb)] at e
    exact hr.glo b x B1 C1 hb hx e
  · intro b1 b2 x1 x2 B1 C1 C2 h1 h2 e1 e2
    rw [hup b1 (hne _ _ h1)] at e1
    rw [hup b2 (hne _ _ h2)] at e2
    exact hr.inj b1 b2 x1 x2 B1 C1 C2 h1 h2 e1 e2
  · intro B1 hB1 hi
    refine ⟨hold _ hB1, ?_⟩
    rintro ⟨b, C1, x, hg, hx, hp⟩
    rw [hup b (hne b x hg)] at hp
    exact hi ⟨b, C1, x, hg, hx, hp⟩

theorem hidSet_sound {φ base Ω w} (hr : HRel φ base Ω w) {B : Nat} (hB : base ≤ B) (hi : ¬ Img φ Ω B) (o : Obj) (w1 : World) (hw : w1 = w ∨ w1 = w.drew) : HRel φ base Ω (setBlock w1 B o) := by
  have hh : w1.heap = w.heap := by rcases hw with rfl | rfl <;> rfl
  have hs : (setBlock w1 B o).heap.size = w.heap.size := by simp [setBlock, hh]
  refine ⟨hr.fresh, hr.lim, hr.glob, by rw [hs]; exact hr.size, by rw [hs]; exact hr.bound, fun b x hb => (hr.obj b x hb).move (Ext.refl φ) fun B1 C1 e => ?_, hr.glo, hr.inj⟩
  have hne : B1 ≠ B := by
    intro hh
    subst hh
    exact hr.free hB hi b x C1 hb e
  simp [setBlock, hh, Ne.symm hne]

theorem Stp.hid {φ0 : Phi} {Ω0 : Om} {w0 : World} {φ : Phi} {Ω : Om} {w : World} (st : Stp φ0 Ω0 w0 φ Ω w) {B : Nat} (hB : w0.heap.size ≤ B) (o : Obj) (w1 : World) (hw : w1 = w ∨ w1 = w.drew) : Stp φ0 Ω0 w0 φ Ω (setBlock w1 B o) := by
  have hh : w1.heap = w.heap ∧ w1.tape = w.tape ∧ w1.os = w.os ∧ w1.output = w.output := by rcases hw with rfl | rfl <;> exact ⟨rfl, rfl, rfl, rfl⟩
  obtain ⟨h1, h2, h3, h4⟩ := hh
  refine ⟨st.ext, st.old, st.nxt, by simp [setBlock, h1]; exact st.size, h2.trans st.tape, h3.trans st.os, h4.trans st.output, fun B1 hB1 hi => ?_⟩
  obtain ⟨k1, k2⟩ := st.keep B1 hB1 hi
  refine ⟨?_, k2⟩
  rw [← k1]
  simp [setBlock, h1, show ¬ B = B1 by omega]

/-! ### Rounds -/
def isPtr (v : Option Value) (b : Nat) : Bool :=
  match v with
  | some (.pointer (some ⟨b', 0, none⟩)) => Nat.beq b' b
  | _ => false
theorem isPtr_eq {v : Option Value} {b : Nat} (h : isPtr v b = true) : v = some (.pointer (some ⟨b, 0, none⟩)) := by
  unfold isPtr at h
  split at h
  · rw [Nat.eq_of_beq_eq_true h]
  · cases h

def dropN (i : Nat) : List Nat → List Nat
  | [] => []
  | j :: r => match Nat.beq j i with
    | true => dropN i r
    | false => j :: dropN i r
theorem mem_dropN {i j : Nat} : ∀ {l : List Nat}, j ∈ l → j ≠ i → j ∈ dropN i l
  | k :: r, h, hne => by
    simp only [dropN]
    split
    · rename_i hk
      have hk := Nat.eq_of_beq_eq_true hk
      rcases List.mem_cons.1 h with rfl | h
      · exact absurd hk hne
      · exact mem_dropN h hne
    · rcases List.mem_cons.1 h with rfl | h
      · exact List.mem_cons_self
      · exact List.mem_cons_of_mem _ (mem_dropN h hne)

def allB {α : Type} (f : α → Bool) : List α → Bool
  | [] => true
  | x :: r => match f x with
    | true => allB f r
    | false => false
theorem allB_mem {α : Type} {f : α → Bool} : ∀ {l : List α}, allB f l = true → ∀ x ∈ l, f x = true
  | y :: r, h, x, hx => by
    simp only [allB] at h
    split at h
    · rename_i hy
      rcases List.mem_cons.1 hx with rfl | hx
      · exact hy
      · exact allB_mem h x hx
    · cases h

/-- A loop over a map, in parts. -/
structure Rng where
  ops6 : Array Oper
  o6 : Oper
  r6 : List Oper
  it6 : Operand
  cc : Operand
  ops7 : Array Oper
  o7 : Oper
  r7 : List Oper
  it7 : Operand
  rest : Code

structure Rng.Ok (r : Rng) : Prop where
  e6 : r.ops6.toList = r.o6 :: r.r6
  g6 : r.o6.guard = none
  p6 : r.o6.op = .next r.it6 false
  e7 : r.ops7.toList = r.o7 :: r.r7
  g7 : r.o7.guard = none
  p7 : r.o7.op = .entry r.it7

def Rng.head (P : Program) (call : CallG) (n : Nat) (r : Rng) (itb : Nat) (s : St) (v : Value) : Option (Bool × St) :=
  match isPtr (ev s.T s.Ω.gl r.it6) itb with
  | true =>
    match putT s.T n r.o6.dst v with
    | some T =>
      match evOps P call n r.ops6 r.r6 ⟨T, s.Ω⟩ with
      | some (.ok s1) =>
        match ev s1.T s1.Ω.gl r.cc with
        | some (.bool b) => some (b, s1)
        | _ => none
      | _ => none
    | none => none
  | false => none

def Rng.round (P : Program) (call : CallG) (draw : DrawF) (n fuel : Nat) (r : Rng) (itb : Nat) (s : St) (v : Value) : Option St :=
  match isPtr (ev s.T s.Ω.gl r.it7) itb with
  | true =>
    match putT s.T n r.o7.dst v with
    | some T =>
      match evOps P call n r.ops7 r.r7 ⟨T, s.Ω⟩ with
      | some (.ok s1) =>
        match evCode P call draw n fuel r.rest s1 with
        | some (.normal, s2) => some s2
        | _ => none
      | _ => none
    | none => none
  | false => none

def rounds (P : Program) (call : CallG) (draw : DrawF) (n fuel : Nat) (r : Rng) (itb : Nat) (es : List (Value × Value)) (fin : St → Bool) : Nat → List Nat → St → Bool
  | 0, _, _ => false
  | f + 1, left, s =>
    match (match r.head P call n itb s (.tuple ⟨[.bool false]⟩) with
      | some (false, s1) => fin s1
      | _ => false) with
    | true =>
      allB (fun i =>
        match es[i]? with
        | some (k, v) =>
          match r.head P call n itb s (.tuple ⟨[.bool true, k, v]⟩) with
          | some (true, s1) =>
            match r.round P call draw n fuel itb s1 (.tuple ⟨[k, v]⟩) with
            | some s2 => rounds P call draw n fuel r itb es fin f (dropN i left) s2
            | none => false
          | _ => false
        | none => false) left
    | false => false

theorem region_first {P : Program} {ops : Array Oper} {o : Oper} {r : List Oper} {Q : Exit → Act → World → Prop} {a : Act} {w w1 : World} {v' : Value} (e : ops.toList = o :: r) (hg : o.guard = none) (hrun : (execOp a.eval o).run P w = .ok (.value v') w1)
    (K : wpOps P ops Q (List.range' 1 r.length) (a.put o.dst v') w1) : wpOps P ops Q (List.range ops.size) a w := by
  have hsz : ops.size = r.length + 1 := by rw [← Array.length_toList, e]; simp
  have er : List.range ops.size = 0 :: List.range' 1 r.length := by rw [hsz, List.range_eq_range', List.range'_succ]
  have ho0 : ops[0]? = some o := by rw [← Array.getElem?_toList, e]; rfl
  rw [er]
  simp only [wpOps, ho0]
  have hw : Region.wanted o (yielded ops a.tmps) = true := by unfold Region.wanted; rw [hg]
  rw [if_pos hw]
  refine .inl ?_
  unfold Oper.wp
  rw [hrun]
  exact K

theorem tail_ops {ops : Array Oper} {o : Oper} {r : List Oper} (e : ops.toList = o :: r) : ∀ i, i < r.length → ops[1 + i]? = r[i]? := by
  intro i _
  rw [← Array.getElem?_toList, e, Nat.add_comm]
  simp

theorem evRounds_wp {P : Program} (hP : NoCount P) {call : CallG} (hc : CallGOk P call) {draw : DrawF} {n : Nat} (hd : DrawOk P draw n) {fuel : Nat} {r : Rng} (hr : r.Ok) {itb : Nat} {es : List (Value × Value)} {fin : St → Bool}
    {ds : List Deferred} {base : Nat} {φ0 : Phi} {Ω0 : Om} {w0 : World} {M It clock : Nat} {ents : Array MapEntry} {i6 i7 bl bl2 : Nat} {Q : Exit → Act → World → Prop}
    (hb0 : base ≤ w0.heap.size) (hM : M < base) (hIt : w0.heap.size ≤ It) (hborn : Borns (ents.toList.map (·.born)) clock)
    (hq : ∀ φ' a' w' s', fin s' = true → StRel ds φ' base n s' a' w' → Stp φ0 Ω0 w0 φ' s'.Ω w' → Q .normal a' w') :
    ∀ (f : Nat) {left : List Nat} {s : St}, rounds P call draw n fuel r itb es fin f left s = true → ∀ {φ : Phi} {a : Act} {w : World} {seen : Array Nat}, StRel ds φ base n s a w → (∃ C, φ itb = some (It, C)) → It < w.heap.size → ¬ Img φ s.Ω It →
      w.heap[M]? = some (.map ents clock) → LRel φ (es.map (·.1)) (ents.toList.map (·.key)) → LRel φ (es.map (·.2)) (ents.toList.map (·.val)) →
      w.heap[It]? = some (.mapIter (some M) clock seen clock) → (∀ (j : Nat) (e : MapEntry), ents[j]? = some e → e ∈ (leftOf ents seen).toList → j ∈ left) → Stp φ0 Ω0 w0 φ s.Ω w →
      LoopAt P (.seq (.region i6 r.ops6 false) (.seq (.cond r.cc .skip (.exit bl)) (.block bl2 (.seq (.region i7 r.ops7 false) r.rest)))) (Exit.inBlock bl Q) a w := by
  intro f
  induction f with
  | zero => intro left s h; simp [rounds] at h
  | succ f ih =>
    intro left s h φ a w seen hs hphi hItw himg hmap hkeys hvals hit hleft st
    simp only [rounds] at h
    split at h
    · rename_i hover
      have hall := allB_mem h
      have hold : ∀ x ∈ ents.toList, x.born < clock := fun x hx => hborn.2 _ (List.mem_map.2 ⟨x, hx, rfl⟩)
      have hnodup : (ents.toList.map (·.born)).Nodup := hborn.1.imp (fun h => Nat.ne_of_lt h)
      -- the head: the step taken, then the rest of its region, then the test
      have head : ∀ (v v' : Value) (b : Bool) (s1 : St) (w1 : World) (φ1 : Phi), φ1 = φ → r.head P call n itb s v = some (b, s1) → VRel φ v v' → HRel φ base s.Ω w1 → (∀ p, a.eval r.it6 = p → (Instr.next p false r.o6.type).run P w = .ok v' w1) →
          ∀ Q1 : Exit → Act → World → Prop, (∀ φ' a' w', StRel ds φ' base n s1 a' w' → Stp φ s.Ω w1 φ' s1.Ω w' → a'.eval r.cc = .bool b → Q1 .normal a' w') → (Code.region i6 r.ops6 false).wp P Q1 a w := by
        intro v v' b s1 w1 φ1 _ hh hv hr1 hrun Q1 hq1
        unfold Rng.head at hh
        split at hh
        · split at hh
          · rename_i T hT
            split at hh
            · rename_i s2 hops
              split at hh
              · rename_i b' hcc
                injection hh with hh
                injection hh with e1 e2
                subst e1 e2
                refine region_wp (region_first (w1 := w1) (v' := v') hr.e6 hr.g6 ?_ ?_)
                · unfold execOp
                  simp only [hr.p6, Sem.run_bind, hrun _ rfl, Result.andThen_ok, Sem.run_pure]
                · have := evOps_wp hP hc (Q := Q1) r.r6 1 (rest := []) (tail_ops hr.e6) hops (φ := φ) (a := a.put r.o6.dst v') (w := w1) (ds := ds) (base := base)
                    ⟨hs.tmps.put hv hT, by rw [put_defers]; exact hs.defers, hr1⟩ (fun φ' a' w' hs' st' => by
                      have hv := ev_sound hs'.heap hs'.tmps hcc
                      generalize hg : a'.eval r.cc = cv at hv
                      cases hv
                      exact hq1 φ' a' w' hs' st' hg)
                  simpa using this
              · cases hh
            · cases hh
          · cases hh
        · cases hh
      have hptr : ∀ {b s1 v}, r.head P call n itb s v = some (b, s1) → a.eval r.it6 = .pointer (some ⟨It, 0, none⟩) := by
        intro b s1 v hh
        unfold Rng.head at hh
        split at hh
        · rename_i hp
          have hp := isPtr_eq hp
          have hv := ev_sound hs.heap hs.tmps hp
          generalize hg : a.eval r.it6 = cv at hv
          cases hv with
          | ptr o hb =>
            obtain ⟨C, hC⟩ := hphi
            rw [hC] at hb
            injection hb with hb
            injection hb with hb1 hb2
            subst hb1
            rfl
        · cases hh
      rcases run_next_at (P := P) w r.o6.type It M clock clock seen ents clock hit hmap hold (Nat.le_refl _) with ⟨_, hrun⟩ | ⟨e, he, w1, hw1, hrun⟩
      · -- over
        refine LoopAt.round (wp_seq ?_)
        split at hover
        · rename_i s1 hh
          refine head _ (.tuple #[.bool false]) false s1 w φ rfl hh (LRel.tuple (LRel.cons (.bool _) (LRel.nil _))) hs.heap (fun p hp => by rw [← hp, hptr hh]; exact hrun) _ fun φ' a' w' hs' st' hcc => ?_
          refine wp_seq (wp_cond_false hcc (wp_exit ?_))
          simp only [Exit.then, Exit.inBlock, if_true]
          exact hq φ' a' w' s1 hover hs' (st.trans st')
        · cases hover
      · -- one entry more
        have hmem := he
        unfold leftOf at hmem
        rw [Array.toList_filter, List.mem_filter] at hmem
        obtain ⟨hin, hnot⟩ := hmem
        obtain ⟨i, hi, hie⟩ := List.getElem_of_mem hin
        have hei : ents[i]? = some e := by rw [← Array.getElem?_toList, List.getElem?_eq_getElem hi, hie]
        have hh := hall i (hleft i e hei he)
        split at hh
        · rename_i k v hkv
          split at hh
          · rename_i s1 hhead
            split at hh
            · rename_i s2 hround
              have hlen : i < es.length := (List.getElem?_eq_some_iff.1 hkv).1
              have hkvi : es[i] = (k, v) := (List.getElem?_eq_some_iff.1 hkv).2
              have rk : VRel φ k e.key := by
                have := hkeys.2 i (by simpa using hlen) (by simpa using hi)
                simpa [hkvi, hie] using this
              have rv : VRel φ v e.val := by
                have := hvals.2 i (by simpa using hlen) (by simpa using hi)
                simpa [hkvi, hie] using this
              have hbI : base ≤ It := Nat.le_trans hb0 hIt
              generalize ho : (Obj.mapIter (some M) clock (seen.push e.born) clock) = o at hrun
              have hr1 : HRel φ base s.Ω (setBlock w1 It o) := hidSet_sound hs.heap hbI himg o w1 hw1
              have st1 : Stp φ0 Ω0 w0 φ s.Ω (setBlock w1 It o) := st.hid hIt o w1 hw1
              have hh1 : w1.heap = w.heap := by rcases hw1 with rfl | rfl <;> rfl
              have hsz1 : (setBlock w1 It o).heap.size = w.heap.size := by simp [setBlock, hh1]
              have hit1 : (setBlock w1 It o).heap[It]? = some o := by simp [setBlock, hh1, hItw]
              have hmap1 : (setBlock w1 It o).heap[M]? = some (.map ents clock) := by
                rw [← hmap]; simp [setBlock, hh1, show ¬ It = M by omega]
              refine LoopAt.round (wp_seq (head _ (.tuple #[.bool true, e.key, e.val]) true s1 (setBlock w1 It o) φ rfl hhead (LRel.tuple (LRel.cons (.bool _) (LRel.cons rk (LRel.cons rv (LRel.nil _))))) hr1 (fun p hp => by rw [← hp, hptr hhead]; exact hrun) _ fun φ2 a2 w2 hs2 st2 hcc => ?_))
              refine wp_seq (wp_cond_true hcc (wp_skip ?_))
              -- the round
              obtain ⟨k1, k2⟩ := st2.keep It (by rw [hsz1]; exact hItw) himg
              have hmap2 : w2.heap[M]? = some (.map ents clock) := by
                rw [← hmap1]
                exact (st2.below hr1).block M hM
              unfold Rng.round at hround
              split at hround
              · rename_i hp7
                split at hround
                · rename_i T2 hT2
                  split at hround
                  · rename_i s3 hops7
                    split at hround
                    · rename_i s4 hrest
                      injection hround with hround
                      subst hround
                      have hp7 := isPtr_eq hp7
                      have hptr7 : a2.eval r.it7 = .pointer (some ⟨It, 0, none⟩) := by
                        have hv := ev_sound hs2.heap hs2.tmps hp7
                        generalize hg : a2.eval r.it7 = cv at hv
                        cases hv with
                        | ptr o hb =>
                          obtain ⟨C, hC⟩ := hphi
                          rw [st2.ext _ _ hC] at hb
                          injection hb with hb
                          injection hb with hb1 hb2
                          subst hb1
                          rfl
                      have hrun7 := run_entry_at (P := P) w2 It M clock seen ents clock e (by rw [k1, hit1, ← ho]) hmap2 hin hnodup
                      refine wp_block (wp_seq (region_wp (region_first (w1 := w2) (v' := .tuple #[e.key, e.val]) hr.e7 hr.g7 ?_ ?_)))
                      · unfold execOp
                        simp only [hr.p7, hptr7, Sem.run_bind, hrun7, Result.andThen_ok, Sem.run_pure]
                      · have := evOps_wp hP hc (Q := Exit.then (r.rest.wp P (Exit.inBlock bl2 (Exit.then (LoopAt P (.seq (.region i6 r.ops6 false) (.seq (.cond r.cc .skip (.exit bl)) (.block bl2 (.seq (.region i7 r.ops7 false) r.rest)))) (Exit.inBlock bl Q)) (Exit.inBlock bl Q)))) (Exit.inBlock bl2 (Exit.then (LoopAt P (.seq (.region i6 r.ops6 false) (.seq (.cond r.cc .skip (.exit bl)) (.block bl2 (.seq (.region i7 r.ops7 false) r.rest)))) (Exit.inBlock bl Q)) (Exit.inBlock bl Q)))) r.r7 1 (rest := []) (tail_ops hr.e7) hops7
                          (φ := φ2) (a := a2.put r.o7.dst (.tuple #[e.key, e.val])) (w := w2) (ds := ds) (base := base)
                          ⟨hs2.tmps.put (LRel.tuple (LRel.cons (rk.mono st2.ext) (LRel.cons (rv.mono st2.ext) (LRel.nil _)))) hT2, by rw [put_defers]; exact hs2.defers, hs2.heap⟩ (fun φ3 a3 w3 hs3 st3 => by
                            refine (evCode_wp hP hc hd fuel).1 r.rest hrest hs3 fun φ4 a4 w4 e4 hs4 st4 hx4 => ?_
                            cases hx4
                            have st24 : Stp φ2 s1.Ω w2 φ4 s4.Ω w4 := Stp.trans (Ω1 := s3.Ω) st3 st4
                            obtain ⟨k3, k4⟩ := st24.keep It (by have := st2.size; omega) k2
                            have hmap4 : w4.heap[M]? = some (.map ents clock) := by
                              rw [← hmap2]
                              exact (st24.below hs2.heap).block M hM
                            have ext4 : Ext φ φ4 := st2.ext.trans st24.ext
                            refine ih hh hs4 ⟨hphi.choose, ext4 _ _ hphi.choose_spec⟩ (by have := st2.size; have := st24.size; omega) k4 hmap4 (hkeys.mono ext4) (hvals.mono ext4) (seen := seen.push e.born) (by rw [k3, k1, hit1, ← ho]) ?_ (st1.trans (st2.trans st24))
                            intro j e' hj hmem
                            unfold leftOf at hmem
                            rw [Array.toList_filter, List.mem_filter] at hmem
                            obtain ⟨m1, m2⟩ := hmem
                            have hjl : j ∈ left := hleft j e' hj (by
                              unfold leftOf
                              rw [Array.toList_filter, List.mem_filter]
                              refine ⟨m1, ?_⟩
                              simp at m2 ⊢
                              exact m2.1)
                            refine mem_dropN hjl ?_
                            intro hji
                            subst hji
                            rw [hei] at hj
                            injection hj with hj
                            subst hj
                            simp at m2)
                        simpa using this
                    · cases hround
                  · cases hround
                · cases hround
              · cases hround
            · cases hh
          · cases hh
        · cases hh
    · cases h

end Go.Ev
