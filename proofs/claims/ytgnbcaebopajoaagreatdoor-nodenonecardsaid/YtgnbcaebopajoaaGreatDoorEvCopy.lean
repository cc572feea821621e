/- A call that ranges over a map and answers a pointer of which nothing more is asked: memory held still. -/
import Derived.Test.YtgnbcaebopajoaaGreatDoorEvRounds
namespace Go.Ev
open Go.RowKit Go.ChangeMaps

/-! ### Memory held still -/
def freezeRow (Ω : Om) (b : Nat) (h : Tr Blk) : Tr Blk :=
  match Ω.h.get b with
  | some (.row t cs _ g) => h.set b (some (.row t cs true g))
  | _ => h
def freezeH (Ω : Om) : List Nat → Tr Blk
  | [] => .nil
  | b :: r => freezeRow Ω b (freezeH Ω r)
def freeze (Ω : Om) (l : List Nat) : Om := ⟨Ω.gl, Ω.next, freezeH Ω l⟩

theorem freeze_get {φ base Ω w} (hr : HRel φ base Ω w) : ∀ {l : List Nat} {b : Nat} {x : Blk}, (freezeH Ω l).get b = some x → ∃ t cs ro g, Ω.h.get b = some (.row t cs ro g) ∧ x = .row t cs true g := by
  intro l
  induction l with
  | nil => intro b x h; simp only [freezeH, Tr.get_nil] at h; cases h
  | cons c r ih =>
    intro b x h
    simp only [freezeH, freezeRow] at h
    split at h
    · rename_i t cs ro g hg
      have hc : c < Tr.most := by
        obtain ⟨B, C, hp⟩ := hr.live c _ hg
        have : c < Ω.next := by
          apply Nat.lt_of_not_le
          intro hle
          rw [hr.fresh c hle] at hp; cases hp
        exact Nat.lt_of_lt_of_le this hr.lim
      rw [Tr.get_set _ _ _ _ hc] at h
      split at h
      · rename_i hbc
        injection h with h
        subst hbc
        exact ⟨t, cs, ro, g, hg, h.symm⟩
      · exact ih h
    · exact ih h

theorem freeze_rel {φ base Ω w} (hr : HRel φ base Ω w) (l : List Nat) : HRel φ w.heap.size (freeze Ω l) w := by
  refine ⟨hr.fresh, hr.lim, hr.glob, Nat.le_refl _, hr.bound, fun b x h => ?_, fun b x B C h _ e => hr.bound b B C e, fun b1 b2 x1 x2 B C1 C2 h1 h2 e1 e2 => ?_⟩
  · obtain ⟨t, cs, ro, g, hg, rfl⟩ := freeze_get hr h
    obtain ⟨B, C, CS, fz, ra⟩ := hr.row b t cs ro g hg
    exact ⟨B, C, CS, fz, ra.phi, ra.heap, ra.free, ra.vals, fun h => (by cases h), ra.grown⟩
  · obtain ⟨t1, cs1, ro1, g1, hg1, _⟩ := freeze_get hr h1
    obtain ⟨t2, cs2, ro2, g2, hg2, _⟩ := freeze_get hr h2
    exact hr.inj b1 b2 _ _ B C1 C2 hg1 hg2 e1 e2

/-! ### The call -/
def lastRange : List Oper → Option (List Oper × Oper × TypeId × Operand)
  | [] => none
  | [o] => match o.op, o.guard with
    | .range t x, none => some ([], o, t, x)
    | _, _ => none
  | o :: r => match lastRange r with
    | some (l, q) => some (o :: l, q)
    | none => none

theorem lastRange_eq : ∀ {l l' : List Oper} {o : Oper} {t : TypeId} {x : Operand}, lastRange l = some (l', o, t, x) → l = l' ++ [o] ∧ o.op = .range t x ∧ o.guard = none
  | [], l', o, t, x, h => by simp [lastRange] at h
  | [y], l', o, t, x, h => by
    simp only [lastRange] at h
    split at h
    · rename_i h1 h2
      simp only [Option.some.injEq, Prod.mk.injEq] at h
      obtain ⟨rfl, rfl, rfl, rfl⟩ := h
      exact ⟨rfl, h1, h2⟩
    · cases h
  | y :: z :: r, l', o, t, x, h => by
    simp only [lastRange] at h
    split at h
    · rename_i l2 q h1
      simp only [Option.some.injEq, Prod.mk.injEq] at h
      obtain ⟨rfl, rfl⟩ := h
      obtain ⟨e, rest⟩ := lastRange_eq (l := z :: r) (by simpa only [lastRange] using h1)
      exact ⟨by rw [e]; rfl, rest⟩
    · cases h

def rngOf (ops6 ops7 : Array Oper) (cc : Operand) (rest : Code) : Option Rng :=
  match ops6.toList, ops7.toList with
  | o6 :: r6, o7 :: r7 =>
    match o6.op, o6.guard, o7.op, o7.guard with
    | .next it6 false, none, .entry it7, none => some ⟨ops6, o6, r6, it6, cc, ops7, o7, r7, it7, rest⟩
    | _, _, _, _ => none
  | _, _ => none

theorem rngOf_ok {ops6 ops7 : Array Oper} {cc : Operand} {rest : Code} {r : Rng} (h : rngOf ops6 ops7 cc rest = some r) : r.Ok ∧ r.ops6 = ops6 ∧ r.ops7 = ops7 ∧ r.cc = cc ∧ r.rest = rest := by
  unfold rngOf at h
  split at h
  · rename_i o6 r6 o7 r7 e6 e7
    split at h
    · rename_i it6 it7 p6 g6 p7 g7
      injection h with h
      subst h
      exact ⟨⟨e6, g6, p6, e7, g7, p7⟩, rfl, rfl, rfl, rfl⟩
    · cases h
  · cases h

def isP : Option Value → Bool
  | some (.pointer (some ⟨_, 0, none⟩)) => true
  | _ => false

def sliceBlocks : List Value → List Nat
  | [] => []
  | .slice (some ⟨b, _, _⟩) _ _ :: r => b :: sliceBlocks r
  | _ :: r => sliceBlocks r

def entryBlocks : List (Value × Value) → List Nat
  | [] => []
  | (_, .agg cs) :: r => sliceBlocks cs.toList ++ entryBlocks r
  | _ :: r => entryBlocks r

def upTo : Nat → List Nat → List Nat
  | 0, l => l
  | n + 1, l => upTo n (n :: l)
theorem mem_upTo : ∀ {n : Nat} {l : List Nat} {j : Nat}, (j < n ∨ j ∈ l) → j ∈ upTo n l
  | 0, l, j, h => by rcases h with h | h; · omega
                     · exact h
  | n + 1, l, j, h => mem_upTo (n := n) (by
      rcases h with h | h
      · by_cases e : j = n
        · exact .inr (by rw [e]; exact List.mem_cons_self)
        · exact .inl (by omega)
      · exact .inr (List.mem_cons_of_mem _ h))

/-- The way to the loop. -/
def preTo (P : Program) (call : CallG) (draw : DrawF) (n fuel : Nat) : List Code → St → Option St
  | [], s => some s
  | c :: r, s => match evCode P call draw n fuel c s with
    | some (.normal, s1) => preTo P call draw n fuel r s1
    | _ => none

def copyEnd (P : Program) (fn : Func) (call : CallG) (draw : DrawF) (n fuel : Nat) (post : Code) (s : St) : Bool :=
  match evCode P call draw n fuel post s with
  | some (.ret, s1) => isP (resultOf P s1 fn.results.toList)
  | _ => false

/-- From the loop's own region on. -/
def copyLoop (P : Program) (fn : Func) (call : CallG) (draw : DrawF) (n fuel : Nat) (Ω : Om) (ops5 : Array Oper) (r : Rng) (post : Code) (s : St) : Bool :=
  match lastRange ops5.toList with
  | some (l5, o5, t, x) =>
    match evOps P call n ops5 l5 s with
    | some (.ok s5) =>
      match ev s5.T s5.Ω.gl x, P.underlying t with
      | some (.map (some m)), some (.map _ _) =>
        match Ω.h.get m with
        | some (.map es) =>
          if s5.Ω.next < Tr.most then
            match putT s5.T n o5.dst (.pointer (some ⟨s5.Ω.next, 0, none⟩)) with
            | some T6 => rounds P call draw n fuel r s5.Ω.next es (copyEnd P fn call draw n fuel post) fuel (upTo es.length []) ⟨T6, { s5.Ω with next := s5.Ω.next + 1 }⟩
            | none => false
          else false
        | _ => false
      | _, _ => false
    | _ => false
  | none => false

def stillBlocks (Ω : Om) : List Value → List Nat
  | [.pointer (some ⟨b, _, _⟩)] =>
    match Ω.h.get b with
    | some (.row _ (.map (some m) :: _) _ _) =>
      match Ω.h.get m with
      | some (.map es) => b :: entryBlocks es
      | _ => []
    | _ => []
  | _ => []

def copyOp (P : Program) (call : CallG) (drawF : CallF → Nat → DrawF) (fuel : Nat) (f : FuncId) (args : List Value) (Ω : Om) : Option (Res × Om) :=
  match P.funcs[f]? with
  | some fn =>
    match fn.body with
    | some (.seq c0 (.seq c1 (.seq c2 (.seq c3 (.seq (.seq (.region _ ops5 false) (.block bl (.loop (.seq (.region _ ops6 false) (.seq (.cond cc .skip (.exit bl')) (.block _ (.seq (.region _ ops7 false) rest))))))) post))))) =>
      if args.length ≤ fn.ntmps ∧ fn.ntmps < Tr.most ∧ Ω.next < Tr.most ∧ bl = bl' then
        match rngOf ops6 ops7 cc rest with
        | some r =>
          match preTo P call (drawF call.only fn.ntmps) fn.ntmps fuel [c0, c1, c2, c3] ⟨argsT .nil 0 args, freeze Ω (stillBlocks Ω args)⟩ with
          | some s4 =>
            match copyLoop P fn call (drawF call.only fn.ntmps) fn.ntmps fuel Ω ops5 r post s4 with
            | true => some (.ret (.pointer (some ⟨Ω.next, 0, none⟩)), { Ω with next := Ω.next + 1 })
            | false => none
          | none => none
        | none => none
      else none
    | _ => none
  | none => none

theorem preTo_wp {P : Program} (hP : NoCount P) {call : CallG} (hc : CallGOk P call) {draw : DrawF} {n : Nat} (hd : DrawOk P draw n) {fuel : Nat} {ds : List Deferred} {last : Code} {Q : Exit → Act → World → Prop} :
    ∀ (l : List Code) {s s4 : St}, preTo P call draw n fuel l s = some s4 → ∀ {φ : Phi} {base : Nat} {a : Act} {w : World}, StRel ds φ base n s a w →
      (∀ φ' a' w', StRel ds φ' base n s4 a' w' → Stp φ s.Ω w φ' s4.Ω w' → last.wp P Q a' w') → (l.foldr Code.seq last).wp P Q a w := by
  intro l
  induction l with
  | nil => intro s s4 h φ base a w hs hq; injection h with h; subst h; exact hq φ a w hs (Stp.refl _ _ _)
  | cons c r ih =>
    intro s s4 h φ base a w hs hq
    simp only [preTo] at h
    split at h
    · rename_i s1 h1
      refine wp_seq ((evCode_wp hP hc hd fuel).1 c h1 hs fun φ' a' w' e hs' st hx => ?_)
      cases hx
      exact ih h hs' fun φ2 a2 w2 hs2 st2 => hq φ2 a2 w2 hs2 (st.trans st2)
    · cases h

theorem isP_eq {o : Option Value} (h : isP o = true) : ∃ b, o = some (.pointer (some ⟨b, 0, none⟩)) := by
  unfold isP at h
  split at h
  · exact ⟨_, rfl⟩
  · cases h

theorem copyOp_ok {P : Program} (hP : NoCount P) {call : CallG} (hc : CallGOk P call) {drawF : CallF → Nat → DrawF} (hd : ∀ call n, CallOk P call → DrawOk P (drawF call n) n) {fuel : Nat} {f : FuncId} {args : List Value} {Ω Ω' : Om} {res : Res} (h : copyOp P call drawF fuel f args Ω = some (res, Ω'))
    {φ : Phi} {base : Nat} {w : World} {args' : List Value} (hr : HRel φ base Ω w) (hl : LRel φ args args') : Calls P f args'.toArray w (RPost φ base Ω w res Ω') := by
  unfold copyOp at h
  split at h
  · rename_i fn hfn
    split at h
    · rename_i c0 c1 c2 c3 i5 ops5 bl i6 ops6 cc bl' bl2 i7 ops7 rest post hbody
      split at h
      · rename_i hcond
        obtain ⟨hlen, hmost, hlim, hbl⟩ := hcond
        subst hbl
        split at h
        · rename_i r hrng
          obtain ⟨rok, e6, e7, ecc, erest⟩ := rngOf_ok hrng
          split at h
          · rename_i s4 hpre
            split at h
            · rename_i hloop
              injection h with h
              injection h with h1 h2
              subst h1 h2
              refine calls_of_wp hfn hbody ?_
              have hrf := freeze_rel hr (stillBlocks Ω args)
              have hs0 := enter_rel hrf hl hlen hmost
              refine preTo_wp hP hc (hd _ _ hc.only) [c0, c1, c2, c3] hpre hs0 fun φ4 a4 w4 hs4 st4 => ?_
              unfold copyLoop at hloop
              split at hloop
              · rename_i l5 o5 t x hlast
                obtain ⟨hops, hop, hgd⟩ := lastRange_eq hlast
                split at hloop
                · rename_i s5 h5
                  split at hloop
                  · rename_i m kt vt hev hund
                    split at hloop
                    · rename_i es hes
                      split at hloop
                      · rename_i hlim5
                        split at hloop
                        · rename_i T6 hT6
                          obtain ⟨M, C, ents, clock, ma⟩ := hr.obj m _ hes
                          have hMw : M < w.heap.size := hr.bound _ _ _ ma.phi
                          refine wp_seq (wp_seq (region_wp ?_))
                          have hsz : ops5.size = l5.length + 1 := by rw [← Array.length_toList, hops]; simp
                          have hget : ∀ i, ops5[i]? = (l5 ++ [o5])[i]? := fun i => by rw [← hops, Array.getElem?_toList]
                          have er : List.range ops5.size = List.range' 0 l5.length ++ [l5.length] := by rw [hsz, List.range_succ, List.range_eq_range']
                          rw [er]
                          refine evOps_wp hP hc l5 0 (rest := [l5.length]) (fun i hi => by rw [Nat.zero_add, hget, List.getElem?_append_left hi]) h5 hs4 ?_
                          intro φ5 a5 w5 hs5 st5
                          have st05 : Stp φ (freeze Ω (stillBlocks Ω args)) w φ5 s5.Ω w5 := st4.trans st5
                          have ho5 : ops5[l5.length]? = some o5 := by rw [hget]; simp
                          simp only [wpOps, ho5]
                          have hw5 : Region.wanted o5 (yielded ops5 a5.tmps) = true := by unfold Region.wanted; rw [hgd]
                          rw [if_pos hw5]
                          refine .inl ?_
                          -- the map that is ranged over
                          have hM5 : w5.heap[M]? = some (.map ents clock) := by rw [← ma.heap]; exact (st05.below hrf).block M hMw
                          have hx5 : a5.eval x = .map (some M) := by
                            have hv := ev_sound hs5.heap hs5.tmps hev
                            generalize hg : a5.eval x = cv at hv
                            cases hv with
                            | map hb =>
                              rw [st05.ext _ _ ma.phi] at hb
                              injection hb with hb
                              injection hb with hb1 hb2
                              subst hb1
                              rfl
                          let w6 : World := { w5 with heap := w5.heap.push (.mapIter (some M) clock #[] clock) }
                          have hrun : (execOp a5.eval o5).run P w5 = .ok (.value (.pointer (some ⟨w5.heap.size, 0, none⟩))) w6 := by
                            unfold execOp
                            simp only [hop, hx5]
                            simp [Instr.range, r_under hund, run_getMap hM5, w6]
                          unfold Oper.wp
                          rw [hrun]
                          have hsz6 : w6.heap.size = w5.heap.size + 1 := by simp [w6]
                          obtain ⟨q1, q2, q3⟩ := newHid_sound hs5.heap hlim5 w6 (B := w5.heap.size) (by omega) (by omega) (fun k hk => by simp only [w6]; rw [Array.getElem?_push, if_neg (by omega)]) rfl rfl rfl
                          have himg : ¬ Img (upd φ5 s5.Ω.next (w5.heap.size, 0)) { s5.Ω with next := s5.Ω.next + 1 } w5.heap.size := by
                            rintro ⟨b, C1, y, hg, hy, hp⟩
                            have hgb : s5.Ω.h.get b = some y := hg
                            obtain ⟨B1, C2, hp1⟩ := hs5.heap.live b y hgb
                            have hne : b ≠ s5.Ω.next := by
                              intro e
                              rw [e, hs5.heap.fresh _ (Nat.le_refl _)] at hp1; cases hp1
                            unfold upd at hp
                            rw [if_neg hne] at hp
                            have := hs5.heap.bound _ _ _ hp
                            omega
                          have st06 : Stp φ (freeze Ω (stillBlocks Ω args)) w (upd φ5 s5.Ω.next (w5.heap.size, 0)) { s5.Ω with next := s5.Ω.next + 1 } w6 := st05.trans q2
                          have hs6 : StRel [] (upd φ5 s5.Ω.next (w5.heap.size, 0)) w.heap.size fn.ntmps ⟨T6, { s5.Ω with next := s5.Ω.next + 1 }⟩ (a5.put o5.dst (.pointer (some ⟨w5.heap.size, 0, none⟩))) w6 :=
                            ⟨(hs5.tmps.mono q2.ext).put (.ptr 0 q3) hT6, by rw [put_defers]; exact hs5.defers, q1⟩
                          have hM6 : w6.heap[M]? = some (.map ents clock) := by rw [← ma.heap]; exact (st06.below hrf).block M hMw
                          show (Code.block bl _).wp P _ _ _
                          refine wp_block (LoopAt.wp ?_)
                          have key := evRounds_wp (bl := bl) (bl2 := bl2) (i6 := i6) (i7 := i7) (Q := Exit.then (post.wp P (bodyPost P fn (RPost φ base Ω w (.ret (.pointer (some ⟨Ω.next, 0, none⟩))) { Ω with next := Ω.next + 1 }))) (bodyPost P fn (RPost φ base Ω w (.ret (.pointer (some ⟨Ω.next, 0, none⟩))) { Ω with next := Ω.next + 1 })))
                            hP hc (hd _ _ hc.only) rok (φ0 := φ) (Ω0 := freeze Ω (stillBlocks Ω args)) (w0 := w) (Nat.le_refl w.heap.size) hMw (It := w5.heap.size) st05.size ma.born (ds := []) (by
                              intro φ7 a7 w7 s7 hfin hs7 st7
                              unfold copyEnd at hfin
                              split at hfin
                              · rename_i s8 h8
                                obtain ⟨b, hb⟩ := isP_eq hfin
                                refine (evCode_wp hP hc (hd _ _ hc.only) fuel).1 post h8 hs7 fun φ8 a8 w8 e8 hs8 st8 hx8 => ?_
                                cases hx8
                                obtain ⟨v', k1, k2⟩ := results_sound hs8 hb
                                cases k2 with
                                | ptr _ hbp =>
                                  rename_i B1 C1
                                  have st08 := (st7.trans st8).below hrf
                                  obtain ⟨z1, z2, z3⟩ := newHid_sound hr hlim w8 (B := B1) (hs8.heap.bound _ _ _ hbp) st08.size st08.block st08.tape st08.os st08.output
                                  exact ⟨hs8.defers, _, k1, _, _, rfl, .ptr 0 z3, z1, z2⟩
                              · cases hfin)
                            fuel hloop hs6 ⟨0, q3⟩ (by omega) himg hM6 (ma.keys.mono st06.ext) (ma.vals.mono st06.ext) (seen := #[]) (by simp [w6]) (by
                              intro j e hj _
                              refine mem_upTo (.inl ?_)
                              have h1 := (Array.getElem?_eq_some_iff.1 hj).1
                              have h2 := ma.keys.1
                              simp at h2
                              omega) st06
                          rw [e6, e7, ecc, erest] at key
                          exact key
                        · cases hloop
                      · cases hloop
                    · cases hloop
                  · cases hloop
                · cases hloop
              · cases hloop
            · cases h
          · cases h
        · cases h
      · cases h
    · cases h
  · cases h

end Go.Ev
