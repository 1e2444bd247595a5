/-
  Part 8 of the proof that winch/winchlaw25.ChangeBodies returns true for every two bodies of small bulk: lemmas.
  Conditions: none beyond each theorem's own premises.
  What lies here:
  The small evaluator's moves against the machine's: ends of rounds, loops over functions, frames that leave; all but the regions that draw.
  The small evaluator against the machine: a whole frame, the regions that draw taken as a premise.
  The small evaluator against the machine: a call from outside, the regions that draw taken as a premise.
  Regions that draw, first part: operations that make a new object, whatever memory holds; reads and values, wherever the next number stands.
-/
import Derived.Test.YtclhjedldbkgpaaGreatDoorBodies7
set_option linter.unusedVariables false
set_option linter.unusedSimpArgs false
set_option linter.unusedSectionVars false
namespace Go.Am
variable {P : Program} [Orc P] [OrcOk P] {ρ : Ren} {H : AHeap} {w : World}

section
variable {c p : Frame} {cs rest : List Frame} {k : List Item} {w' : World}
theorem mv_roundEnd {r : Nat} {jump : Option Code} {v : Value} (hm : c.mode = .run) (hr : c.roundOf = some r) (hk : c.kind = .normal)
    (ht : (c.todo = [] ∧ jump = none) ∨ (∃ k, c.todo = .code .ret :: k ∧ jump = some .ret) ∨ (∃ id k, c.todo = .code (.exit id) :: k ∧ exitTo id k = none ∧ jump = some (.exit id)))
    (he : (Instr.endRound r jump).run P w = .ok v w') : step P (lone c (p :: rest) w) = .next (lone (p.finish v) rest w') := by
  rcases ht with ⟨ht, rfl⟩ | ⟨k, ht, rfl⟩ | ⟨id, k, ht, hx, rfl⟩
  · exact step_lone_go (by simp [stepG, stepG.exec, hm, ht, hr, Sem.runT_eq, he, GStep.bare_after, doReturn, hk])
  · exact step_lone_go (by simp [stepG, stepG.exec, hm, ht, hr, Sem.runT_eq, he, GStep.bare_after, doReturn, hk])
  · exact step_lone_go (by simp [stepG, stepG.exec, hm, ht, hr, hx, Sem.runT_eq, he, GStep.bare_after, doReturn, hk])
theorem mv_beginRound {r : Nat} (hm : c.mode = .run) (hr : c.roundOf = some r) (ht : c.todo = .beginRound :: k) (he : (Instr.beginRound r).run P w = .ok () w') :
    step P (lone c cs w) = .next (lone { c with todo := k } cs w') :=
  step_lone_go (by
    simp only [stepG, stepG.exec, hm, ht, stepG.apply, Sem.runT_eq, hr, Option.elim_some, Sem.run_bind, he, Result.andThen_ok, Sem.run_pure]
    simp [Frame.finish, ht, hm, hr])
theorem mv_endRange {r : Nat} {jump : Option Code} (hm : c.mode = .run) (ht : c.todo = .endRangeFunc r :: k) (he : (Instr.endLoop r).run P w = .ok jump w') :
    step P (lone c cs w) = .next (lone { c with todo := (jump.map Item.code).toList ++ k } cs w') :=
  step_lone_go (by simp [stepG, stepG.exec, hm, ht, Sem.runT_eq, he, GStep.bare_after])
theorem mv_range {f : Operand} {ps : Array Tmp} {assign body : Code} {l : Nat} {mark : List Deferred} {g : FuncId} {a b : Array Value} (hm : c.mode = .run) (ht : c.todo = .code (.rangeFunc f ps assign body) :: k)
    (he : (Instr.enterLoop c.fn c.tmps ps assign body c.roundOf).run P w = .ok (l, mark) w') (hf : c.eval f = .func (.func g) a b)
    (hc : (callFunc g (a ++ #[.func (.yield l) #[] #[]] ++ b)).run P w' = .ok (.enter g (a ++ #[.func (.yield l) #[] #[]] ++ b)) w') :
    step P (lone c cs w) = .next (lone (Frame.enter P g (a ++ #[.func (.yield l) #[] #[]] ++ b) .normal) ({ c with todo := .inRangeFunc l :: k, defers := mark ++ c.defers } :: cs) w') :=
  step_lone_go (by
    have hev : ∀ m, ({ c with todo := .inRangeFunc l :: k, defers := mark ++ c.defers, mode := m } : Frame).eval f = c.eval f := fun m => by cases f <;> rfl
    have hres : ∀ m, (resolve ({ c with todo := .inRangeFunc l :: k, defers := mark ++ c.defers, mode := m } : Frame).eval { callee := .value f, args := #[.const (.func (.yield l) #[] #[])], argTypes := #[] } 0).run P w' =
        .ok ⟨.fn (.func g) b, a ++ #[.func (.yield l) #[] #[]]⟩ w' := fun m => by
      unfold resolve
      simp only [hev, hf]
      simp [Deferred.ofValue, Frame.eval]
    simp only [stepG, stepG.exec, hm, ht, Sem.runT_eq, he, stepG.apply, Sem.run_bind, hres, Result.andThen_ok, invoke, hc]
    simp [GStep.bare_after])
end

theorem run_asAddr (a : Addr) (w : World) : (asAddr (.pointer (some a))).run P w = .ok a w := rfl
theorem results_rel (hh : RelH P ρ H w) {n : Nat} {t : Tree AV} {tmps : Array Value} (ht : RelT ρ n t tmps) {rs : Array ResultVar} {l : List AV} (h : resultsA P H t rs.toList = some l) :
    ∃ vs : List Value, (rs.mapM fun
      | .tmp t => pure (tmps.getD t Go.undef)
      | .cell a t => do loadVar t (← asAddr (tmps.getD a Go.undef)) : Sem (Array Value)).run P w = .ok vs.toArray w ∧ RelL ρ l vs := by
  have key : ∀ {rl : List ResultVar} {l : List AV}, resultsA P H t rl = some l → ∃ vs : List Value, (rl.mapM (fun
      | .tmp t => pure (tmps.getD t Go.undef)
      | .cell a t => do loadVar t (← asAddr (tmps.getD a Go.undef)) : ResultVar → Sem Value) : Sem (List Value)).run P w = .ok vs w ∧ RelL ρ l vs := by
    intro rl
    induction rl with
    | nil => intro l h; unfold resultsA at h; cases h; exact ⟨[], rfl, rfl⟩
    | cons r rl ih =>
      intro l h
      unfold resultsA at h
      split at h
      case h_2 => cases h
      rename_i v vs h1 h2
      cases h
      obtain ⟨us, q1, q2⟩ := ih h2
      cases r with
      | tmp i =>
        simp only at h1
        have hv := (ht.val i).some h1
        refine ⟨tmps.getD i Go.undef :: us, ?_, ?_⟩
        · simp only [List.mapM_cons, Sem.run_bind, Sem.run_pure, Result.andThen_ok]
          rw [q1]
          rfl
        · simp only [RelL]; exact ⟨_, _, rfl, hv, q2⟩
      | cell a ty =>
        simp only at h1
        split at h1
        case h_2 => cases h1
        rename_i j off hp
        have hv := ht.val a
        rw [hp] at hv
        have hv := hv.known (fun e => by cases e)
        simp only [RelV] at hv
        obtain ⟨loc, e1, e2⟩ := hv
        obtain ⟨loc', u, e3, e4, e5⟩ := readVar_rel hh h1
        rw [e1] at e3
        cases e3
        refine ⟨u :: us, ?_, ?_⟩
        · simp only [List.mapM_cons, Sem.run_bind, e2, run_asAddr, Sem.run_pure, Result.andThen_ok, e4]
          rw [q1]
          rfl
        · simp only [RelL]; exact ⟨_, _, rfl, e5, q2⟩
  obtain ⟨vs, q1, q2⟩ := key h
  exact ⟨vs, by rw [Array.mapM_eq_mapM_toList, Sem.run_map, q1]; rfl, q2⟩
theorem results_run (hh : RelH P ρ H w) {n : Nat} {t : Tree AV} {tmps : Array Value} (ht : RelT ρ n t tmps) {g : Func} {l : List AV} (h : resultsA P H t g.results.toList = some l) :
    ∃ v, (results g tmps).run P w = .ok v w ∧ RelV ρ (match l with
      | [a] => a
      | l => .tuple l) v := by
  obtain ⟨vs, q1, q2⟩ := results_rel hh ht h
  refine ⟨if h : vs.toArray.size = 1 then vs.toArray[0] else .tuple vs.toArray, ?_, ?_⟩
  · unfold results
    simp only [Sem.run_bind]
    erw [q1]
    rfl
  · cases l with
    | nil => simp only [RelL] at q2; subst q2; simp [RelV, RelL]
    | cons a l =>
      simp only [RelL] at q2
      obtain ⟨v, us, rfl, r1, r2⟩ := q2
      cases l with
      | nil => simp only [RelL] at r2; subst r2; simpa using r1
      | cons b l =>
        have := r2.length
        have hsz : ¬ ((v :: us).toArray.size = 1) := by simp; intro e; rw [e] at this; simp at this
        rw [dif_neg hsz]
        simp only [RelV, RelL]
        exact ⟨_, rfl, v, us, rfl, r1, by simpa only [RelL] using r2⟩

/-- The end of a frame's code, or of a round. -/
theorem leave_post {rec : ARec} (hs : Sound P rec) {up : AUp} {fr : AFrame} {c : Frame} {cs : List Frame} {jump : Option Code} {res : AEnd × AUp × AHeap} (st : St P ρ H w up fr c cs) (hm : fr.mode = .run)
    (ht : (c.todo = [] ∧ jump = none) ∨ (∃ k, c.todo = .code .ret :: k ∧ jump = some .ret) ∨ (∃ id k, c.todo = .code (.exit id) :: k ∧ exitTo id k = none ∧ jump = some (.exit id)))
    (h : onto rec up (leaveA up fr H jump) = some res) : Post P ρ H w c cs res := by
  have hcm := st.frame.mode
  simp only [hm, RelMode] at hcm
  have hround := st.frame.round
  unfold leaveA at h
  cases hr : fr.round with
  | none =>
    rw [hr] at h hround
    simp only at h hround
    have go : ∀ k, (c.todo = [] ∨ c.todo = .code .ret :: k) → Goes P ρ H w c cs up { fr with mode := .returning, round := none } H := fun k hk =>
      ⟨ρ, w, { c with mode := .returning }, cs, Steps.one (mv_ret_plain hcm hround hk), Ext.refl _ _ _,
        ⟨st.heap, st.glob, ⟨st.frame.fn, st.frame.has, fun _ => st.frame.tmps (Dead.not hm), (fun e => by cases e), st.frame.defers, rfl, hround⟩, st.up⟩, SameUp.refl st.up, rfl, rfl, rfl⟩
    rcases ht with ⟨ht, rfl⟩ | ⟨k, ht, rfl⟩ | ⟨id, k, ht, hx, rfl⟩
    · exact (go [] (Or.inl ht)).post hs h
    · exact (go k (Or.inr ht)).post hs h
    · cases h
  | some l =>
    rw [hr] at h hround
    simp only at h hround
    obtain ⟨hk, loc, q1, q2⟩ := hround
    cases hl : H.get l with
    | none => rw [hl] at h; cases h
    | some ob =>
      rw [hl] at h
      cases ob with
      | loop r =>
        simp only [onto] at h
        cases h
        obtain ⟨loc', j1, j2, j3⟩ := st.heap.obj _ _ hl
        rw [q1] at j1
        cases j1
        simp only [RelO] at j3
        obtain ⟨r', j4, j5⟩ := j3
        have he := run_endRound (P := P) jump j4
        have hturn := st.heap.turn (o₂ := .loop { r with state := bif jump.isNone then .ready else .done, pending := jump }) (w' := w.putObj loc.b (.loop { r' with state := if jump.isNone then .ready else .done, pending := jump })) hl rfl q1
          (by simp) ⟨rfl, rfl⟩ (fun b hb => World.putObj_heap_other hb) (by
            rw [World.putObj_heap_same j2]
            simp only [RelO]
            exact ⟨_, rfl, ⟨by cases jump <;> rfl, rfl, j5.fn, j5.has, j5.tmps, j5.params, j5.assign, j5.body, j5.defers⟩⟩)
        refine ⟨ρ, _, hturn.2, hturn.1, fun hn => ?_, fun _ p rest hcs => ?_⟩
        · rw [q2] at hn; cases hn
        · subst hcs
          exact ⟨.bool jump.isNone, by simp only [RelV], Steps.one (mv_roundEnd hcm q2 hk ht he)⟩
      | _ => cases h
end Go.Am
set_option linter.unusedSectionVars false
namespace Go.Am
variable {P : Program} [Orc P] [OrcOk P] {ρ : Ren} {H : AHeap} {w : World}

/-- What is owed for the regions that draw. -/
def DrawSound (P : Program) [Orc P] [OrcOk P] (rec : ARec) : Prop :=
  ∀ ops pl up fr H up' fr' H', plan ops = some pl → drawnA P rec up ops pl ⟨0, H, [], [], fr, H⟩ = some (up', fr', H') → fr.mode = .run →
    ∀ ρ w c cs id, St P ρ H w up { fr with todo := .code (.region id ops true) :: fr.todo } c cs → Goes P ρ H w c cs up' fr' H'

theorem RelFr.anyTodo {fr : AFrame} {c : Frame} (h : RelFr P ρ fr c) (hm : fr.mode ≠ .run) (t : List AItem) (t' : List Item) : RelFr P ρ { fr with todo := t } { c with todo := t' } :=
  ⟨h.fn, h.has, h.tmps, fun e => absurd e hm, h.defers, h.mode, h.round⟩

def AfterCall (P : Program) [Orc P] [OrcOk P] (ρ : Ren) (H : AHeap) (w : World) (c : Frame) (cs : List Frame) (up : AUp) (fr : AFrame) (H' : AHeap) : AEnd → Prop
  | .returned _ => Goes P ρ H w c cs up fr H'
  | .panicked ch => Goes P ρ H w c cs up (fr.raise ch) H'
theorem range_goes {rec : ARec} (hs : Sound P rec) {up u : AUp} {fr : AFrame} {c : Frame} {cs : List Frame} {l : Nat} {k : List Item} {g : FuncId} {args : List AV} {args' : Array Value} {ds : List Deferred} {ρ2 : Ren} {H2 H' : AHeap} {w2 : World} {e : AEnd}
    (st : RelFr P ρ2 fr { c with todo := .endRangeFunc l :: k, defers := ds }) (hm : fr.mode = .run) (hu : RelUp ρ up c.kind cs) (hg : Glob ρ)
    (s1 : step P (lone c cs w) = .next (lone (Frame.enter P g args' .normal) ({ c with todo := .inRangeFunc l :: k, defers := ds } :: cs) w2)) (ra : RelL ρ2 args args'.toList)
    (h2 : RelH P ρ2 H2 w2) (e2 : Ext ρ H w ρ2 H2 w2) (hc : callF P rec .no g args H2 = some (e, u, H')) : AfterCall P ρ H w c cs up fr H' e := by
  obtain ⟨ρ', w', c', cs', e1, k1, l1, l2, l3, l4, l5, l6⟩ := callF_rel hs hc h2 (hg.mono e2.le) ra (kind := .normal) (cs := { c with todo := .inRangeFunc l :: k, defers := ds } :: cs) rfl
  simp only [SameUp] at l5
  subst l5
  have hle := e2.le.trans e1.le
  cases e with
  | returned v =>
    obtain ⟨v', m1, m2, m3, m4, m5⟩ := l1
    have s2 := (Steps.head s1 m2).trans (Steps.one (step_leave_returned ⟨m3, m4, l3, m5⟩))
    exact ⟨ρ', w', { c with todo := .endRangeFunc l :: k, defers := ds }, cs, s2, e2.trans e1, ⟨k1, hg.mono hle, st.mono e1.le, hu.mono hle⟩, SameUp.refl hu, rfl, rfl, rfl⟩
  | panicked ch =>
    obtain ⟨ch', m1, m2, m3, m4, m5⟩ := l1
    have s2 := (Steps.head s1 m2).trans (Steps.one (step_leave_panicked ⟨m3, m4, m5⟩))
    obtain ⟨f1, f2, f3, f4⟩ := raise_rel (fr := fr) (todo := fr.todo) (st.mono e1.le) m1
    have hcm : c.mode = .run := by have := st.mode; simp only [hm, RelMode] at this; exact this
    have he : ({ c with todo := .inRangeFunc l :: k, defers := ds } : Frame).raise ch' = { (({ c with todo := .endRangeFunc l :: k, defers := ds } : Frame).raise ch') with todo := .inRangeFunc l :: k } := by
      unfold Frame.raise; simp only [hcm]
    have hr : (fr.raise ch).mode ≠ .run := by unfold AFrame.raise; rw [hm]; intro e; cases e
    have f5 := f1.anyTodo hr (fr.raise ch).todo (.inRangeFunc l :: k)
    rw [← he] at f5
    have hk : (({ c with todo := .inRangeFunc l :: k, defers := ds } : Frame).raise ch').kind = c.kind := by rw [he]; exact f3
    refine ⟨ρ', w', _, cs, s2, e2.trans e1, ⟨k1, hg.mono hle, f5, by rw [hk]; exact hu.mono hle⟩, SameUp.refl hu, ?_, hk, ?_⟩
    · rw [he]; exact f2
    · rw [he]; exact f4

theorem callC_some {rec : ARec} {up : AUp} {f : FuncId} {args : List AV} {res : AEnd × AUp × AHeap} (h : callC P rec up f args H = some res) :
    callF P rec up f args H = some res ∧ ∀ (args' : Array Value) (w : World), (callFunc f args').run P w = .ok (.enter f args') w := by
  unfold callC at h
  split at h
  case h_2 => cases h
  rename_i g avs hc
  obtain ⟨g', q1, q2, q3⟩ := callA_rel hc
  cases q1
  cases q2
  exact ⟨h, q3⟩

theorem step_post {rec : ARec} (hs : Sound P rec) (hd : DrawSound P rec) {up : AUp} {fr : AFrame} {c : Frame} {cs : List Frame} {res : AEnd × AUp × AHeap} (st : St P ρ H w up fr c cs) (hm : fr.mode = .run)
    (h : stepA P rec up fr H = some res) : Post P ρ H w c cs res := by
  have hcm := st.frame.mode
  simp only [hm, RelMode] at hcm
  have htodo := st.frame.todo hm
  have hround := st.frame.round
  unfold stepA at h
  cases hti : fr.todo with
  | nil =>
    rw [hti] at h htodo
    simp only [RelItems] at htodo
    exact leave_post hs st hm (Or.inl ⟨htodo, rfl⟩) h
  | cons item k =>
    rw [hti] at h htodo
    simp only [RelItems] at htodo
    obtain ⟨x, xs, hct, hx, hxs⟩ := htodo
    cases item with
    | inBlock id =>
      simp only [RelItem] at hx; subst hx
      exact (st.goTodo (mv_inBlock hcm hct) hxs).post hs h
    | inScope b =>
      simp only [RelItem] at hx; subst hx
      exact (st.goTodo (mv_inScope hcm hct) hxs).post hs h
    | inLoop b =>
      simp only [RelItem] at hx; subst hx
      refine (st.goTodo (todo := .code b :: .inLoop b :: k) (mv_inLoop hcm hct) ?_).post hs h
      simp only [RelItems, RelItem]
      exact ⟨_, _, rfl, rfl, _, _, rfl, rfl, hxs⟩
    | beginRound =>
      simp only [RelItem] at hx; subst hx
      cases hr : fr.round with
      | none => rw [hr] at h; cases h
      | some l =>
        rw [hr] at h hround
        simp only at h hround
        obtain ⟨hk, loc, q1, q2⟩ := hround
        cases hl : H.get l with
        | none => rw [hl] at h; cases h
        | some ob =>
          rw [hl] at h
          cases ob with
          | loop r =>
            simp only at h
            cases hrs : r.state with
            | ready =>
              rw [hrs] at h
              simp only at h
              obtain ⟨loc', j1, j2, j3⟩ := st.heap.obj _ _ hl
              rw [q1] at j1
              cases j1
              simp only [RelO] at j3
              obtain ⟨r', j4, j5⟩ := j3
              have he := run_beginRound (P := P) j4 (j5.state.trans hrs)
              have hturn := st.heap.turn (o₂ := .loop { r with state := .busy }) (w' := w.putObj loc.b (.loop { r' with state := .busy })) hl rfl q1
                (by simp) ⟨rfl, rfl⟩ (fun b hb => World.putObj_heap_other hb) (by
                  rw [World.putObj_heap_same j2]
                  simp only [RelO]
                  exact ⟨_, rfl, ⟨rfl, j5.pending, j5.fn, j5.has, j5.tmps, j5.params, j5.assign, j5.body, j5.defers⟩⟩)
              have s1 := mv_beginRound (P := P) (cs := cs) hcm q2 hct he
              have hg : Goes P ρ H w c cs up { fr with todo := k, round := some l } (H.put l (.loop { r with state := .busy })) :=
                ⟨ρ, _, { c with todo := xs }, cs, Steps.one s1, hturn.2, ⟨hturn.1, st.glob, ⟨st.frame.fn, st.frame.has, fun _ => st.frame.tmps (Dead.not hm), fun _ => hxs, st.frame.defers, st.frame.mode, hk, loc, q1, q2⟩, st.up⟩, SameUp.refl st.up, rfl, rfl, rfl⟩
              exact hg.post hs h
            | _ => rw [hrs] at h; cases h
          | _ => cases h
    | endRangeFunc l =>
      simp only [RelItem] at hx
      obtain ⟨loc, q1, rfl⟩ := hx
      simp only at h
      cases hl : H.get l with
      | none => rw [hl] at h; cases h
      | some ob =>
        rw [hl] at h
        cases ob with
        | loop r =>
          simp only at h
          obtain ⟨loc', j1, j2, j3⟩ := st.heap.obj _ _ hl
          rw [q1] at j1
          cases j1
          simp only [RelO] at j3
          obtain ⟨r', j4, j5⟩ := j3
          have fin : r.state ≠ .busy → rec up { fr with todo := pendingThen r.pending k } (H.put l (.loop { r with state := .exhausted })) = some res → Post P ρ H w c cs res := by
            intro hne h
            have he := run_endLoop (P := P) j4 (by rw [j5.state]; exact hne)
            have hturn := st.heap.turn (o₂ := .loop { r with state := .exhausted }) (w' := w.putObj loc.b (.loop { r' with state := .exhausted })) hl rfl q1
              (by simp) ⟨rfl, rfl⟩ (fun b hb => World.putObj_heap_other hb) (by
                rw [World.putObj_heap_same j2]
                simp only [RelO]
                exact ⟨_, rfl, ⟨rfl, j5.pending, j5.fn, j5.has, j5.tmps, j5.params, j5.assign, j5.body, j5.defers⟩⟩)
            have s1 := mv_endRange (P := P) (cs := cs) hcm hct he
            have hto : RelItems ρ (pendingThen r.pending k) ((r'.pending.map Item.code).toList ++ xs) := by
              rw [j5.pending]
              cases r.pending with
              | none => exact hxs
              | some cd => simp only [pendingThen, RelItems, RelItem]; exact ⟨_, _, rfl, rfl, hxs⟩
            have hg : Goes P ρ H w c cs up { fr with todo := pendingThen r.pending k } (H.put l (.loop { r with state := .exhausted })) :=
              ⟨ρ, _, _, cs, Steps.one s1, hturn.2, ⟨hturn.1, st.glob, ⟨st.frame.fn, st.frame.has, fun _ => st.frame.tmps (Dead.not hm), fun _ => hto, st.frame.defers, st.frame.mode, st.frame.round⟩, st.up⟩, SameUp.refl st.up, rfl, rfl, rfl⟩
            exact hg.post hs h
          cases hrs : r.state with
          | busy => rw [hrs] at h; cases h
          | _ => rw [hrs] at h; exact fin (by rw [hrs]; intro e; cases e) h
        | _ => cases h
    | inRegion ops rest =>
      cases rest with
      | nil =>
        simp only [RelItem] at hx
        obtain ⟨l, rfl, hl⟩ := hx
        have : l = [] := by cases l with
          | nil => rfl
          | cons a b => cases hl
        subst this
        exact (st.goTodo (mv_regionEnd hcm hct) hxs).post hs h
      | cons o os =>
        have st' : St P ρ H w up { ({ fr with todo := .inRegion ops os :: k } : AFrame) with todo := .inRegion ops (o :: os) :: k } c cs := by
          have e : ({ ({ fr with todo := .inRegion ops os :: k } : AFrame) with todo := .inRegion ops (o :: os) :: k } : AFrame) = fr := by rw [← hti]
          rw [e]; exact st
        simp only at h
        obtain ⟨hgd, h⟩ := cond_some h rfl
        cases hwt : wantedA ops fr.tmps o with
        | true =>
          rw [hwt, cond_true] at h
          split at h
          case h_2 => cases h
          rename_i up1 fr1 H1 ho
          exact (operA_goes hs ho st' hm rfl hgd hwt).post hs h
        | false =>
          rw [hwt, cond_false] at h
          split at h
          case h_2 => cases h
          rename_i fr1 hp
          exact (skipOp_goes st' hm rfl hgd hwt hp).post hs h
    | code cd =>
      simp only [RelItem] at hx; subst hx
      cases cd with
      | skip => exact (st.goTodo (mv_skip hcm hct) hxs).post hs h
      | label l => exact (st.goTodo (mv_label hcm hct) hxs).post hs h
      | seq a b =>
        refine (st.goTodo (todo := .code a :: .code b :: k) (mv_seq hcm hct) ?_).post hs h
        simp only [RelItems, RelItem]
        exact ⟨_, _, rfl, rfl, _, _, rfl, rfl, hxs⟩
      | cond x a b =>
        simp only at h
        split at h
        · rename_i hv
          have rv := evA_rel (c := c) st.glob (st.frame.tmps (Dead.not hm)) _ _ hv
          simp only [RelV] at rv
          refine (st.goTodo (todo := .code a :: k) (mv_cond hcm hct rv) ?_).post hs h
          simp only [RelItems, RelItem]
          exact ⟨_, _, rfl, rfl, hxs⟩
        · rename_i hv
          have rv := evA_rel (c := c) st.glob (st.frame.tmps (Dead.not hm)) _ _ hv
          simp only [RelV] at rv
          refine (st.goTodo (todo := .code b :: k) (mv_cond hcm hct rv) ?_).post hs h
          simp only [RelItems, RelItem]
          exact ⟨_, _, rfl, rfl, hxs⟩
        · cases h
      | block id b =>
        refine (st.goTodo (todo := .code b :: .inBlock id :: k) (mv_block hcm hct) ?_).post hs h
        simp only [RelItems, RelItem]
        exact ⟨_, _, rfl, rfl, _, _, rfl, rfl, hxs⟩
      | loop b =>
        refine (st.goTodo (todo := .code b :: .inLoop b :: k) (mv_loop hcm hct) ?_).post hs h
        simp only [RelItems, RelItem]
        exact ⟨_, _, rfl, rfl, _, _, rfl, rfl, hxs⟩
      | scope b =>
        refine (st.goTodo (todo := .code b :: .inScope b :: k) (mv_scope hcm hct) ?_).post hs h
        simp only [RelItems, RelItem]
        exact ⟨_, _, rfl, rfl, _, _, rfl, rfl, hxs⟩
      | exit id =>
        simp only at h
        cases hex : exitToA id k with
        | some k' =>
          rw [hex] at h
          obtain ⟨ks', e1, e2⟩ := exitTo_some hxs hex
          exact (st.goTodo (mv_exit hcm hct e1) e2).post hs h
        | none =>
          rw [hex] at h
          exact leave_post hs st hm (Or.inr (Or.inr ⟨id, xs, hct, exitTo_none hxs hex, rfl⟩)) h
      | ret => exact leave_post hs st hm (Or.inr (Or.inl ⟨xs, hct, rfl⟩)) h
      | region id ops b =>
        cases b with
        | false =>
          refine (st.goTodo (todo := .inRegion ops ops.toList :: k) (mv_region hcm hct) ?_).post hs h
          simp only [RelItems, RelItem]
          refine ⟨_, _, rfl, ⟨_, rfl, ?_⟩, hxs⟩
          apply List.ext_getElem?
          intro i
          simp only [List.getElem?_map, List.getElem?_range, Array.getElem?_toList]
          by_cases hi : i < ops.size
          · simp [hi]
          · simp [hi]
        | true =>
          simp only at h
          split at h
          · cases h
          · rename_i pl hpl
            split at h
            case h_2 => cases h
            rename_i up1 fr1 H1 hdr
            have st' : St P ρ H w up { ({ fr with todo := k } : AFrame) with todo := .code (.region id ops true) :: ({ fr with todo := k } : AFrame).todo } c cs := by
              have e : ({ ({ fr with todo := k } : AFrame) with todo := .code (.region id ops true) :: ({ fr with todo := k } : AFrame).todo } : AFrame) = fr := by rw [← hti]
              rw [e]; exact st
            exact (hd _ _ _ _ _ _ _ _ hpl hdr hm _ _ _ _ _ st').post hs h
      | rangeFunc f ps assign body =>
        simp only at h
        split at h
        · rename_i g first captured hr hv
          rw [hr] at hround
          simp only at hround
          have rv := evA_rel (c := c) st.glob (st.frame.tmps (Dead.not hm)) _ _ hv
          simp only [RelV] at rv
          obtain ⟨g', a, b, hgg, hf, r1, r2⟩ := rv
          cases hgg
          have he := run_enterLoop_outer (P := P) (w := w) c.fn c.tmps ps assign body
          have p1 := st.heap.push (o := .deferred (some [])) (o' := .deferred (some [])) (w' := w.alloc (.deferred (some []))) 0 rfl ⟨rfl, rfl⟩ (by simp only [RelO]; exact ⟨_, rfl, [], rfl, rfl⟩)
          have hmark : ∀ x : Loc, ((ρ.add H.next ⟨w.heap.size, 0, Go.undef⟩).add (H.next + 1) x) H.next = some ⟨w.heap.size, 0, Go.undef⟩ := fun x => by rw [Ren.add_other _ _ (by omega)]; exact Ren.add_same _ _ _
          have hsz : (w.alloc (.deferred (some []))).heap.size = w.heap.size + 1 := by simp
          have p2 := p1.1.push (o := .loop { state := .ready, pending := none, fn := fr.fn, n := fr.n, tmps := fr.tmps, params := ps, assign := assign, body := body, defers := H.next })
            (o' := .loop { state := .ready, pending := none, fn := c.fn, tmps := c.tmps, params := ps, assign, body, defers := w.heap.size })
            (w' := (w.alloc (.deferred (some []))).alloc (.loop { state := .ready, pending := none, fn := c.fn, tmps := c.tmps, params := ps, assign, body, defers := w.heap.size })) 0 rfl ⟨rfl, rfl⟩ (by
              simp only [RelO]
              refine ⟨_, rfl, ⟨rfl, rfl, st.frame.fn, st.frame.has, ?_, rfl, rfl, rfl, ⟨⟨w.heap.size, 0, Go.undef⟩, ?_, rfl⟩⟩⟩
              · exact ((st.frame.tmps (Dead.not hm)).mono p1.2.le).mono (Ren.le_add (p1.1.fresh _ (Nat.le_refl _)))
              · exact hmark _)
          have hle := p1.2.le.trans p2.2.le
          have hnx : (H.push (.deferred (some []))).next = H.next + 1 := rfl
          have hfr : RelFr P ((ρ.add H.next ⟨w.heap.size, 0, Go.undef⟩).add (H.push (.deferred (some []))).next ⟨(w.alloc (.deferred (some []))).heap.size, 0, Go.undef⟩) { fr with todo := .endRangeFunc (H.next + 1) :: k, defers := .collected H.next :: fr.defers }
              { c with todo := .endRangeFunc (w.heap.size + 1) :: xs, defers := [{ target := .collected w.heap.size, args := #[] }] ++ c.defers } := by
            have base := st.frame.mono hle
            refine ⟨base.fn, base.has, fun _ => base.tmps (Dead.not hm), fun _ => ?_, ?_, base.mode, by simp only [hr]; exact hround⟩
            · simp only [RelItems, RelItem]
              refine ⟨_, _, rfl, ⟨⟨w.heap.size + 1, 0, Go.undef⟩, ?_, rfl⟩, hxs.mono hle⟩
              rw [hsz]; exact Ren.add_same _ _ _
            · simp only [RelDefs, List.singleton_append]
              refine ⟨_, _, rfl, ?_, base.defers⟩
              simp only [RelDef]
              refine ⟨⟨w.heap.size, 0, Go.undef⟩, ?_, rfl⟩
              exact hmark _
          have rargs : RelL ((ρ.add H.next ⟨w.heap.size, 0, Go.undef⟩).add (H.push (.deferred (some []))).next ⟨(w.alloc (.deferred (some []))).heap.size, 0, Go.undef⟩) (first ++ [.yieldf (H.next + 1)] ++ captured) (a ++ #[Value.func (.yield (w.heap.size + 1)) #[] #[]] ++ b).toList := by
            rw [Array.toList_append, Array.toList_append]
            refine ((RelL.mono hle _ _ r1).append ?_).append (RelL.mono hle _ _ r2)
            simp only [RelL, RelV]
            refine ⟨_, _, rfl, ⟨⟨w.heap.size + 1, 0, Go.undef⟩, ?_, rfl⟩, rfl⟩
            rw [hsz]; exact Ren.add_same _ _ _
          have core : ∀ {e u H'}, callC P rec .no g (first ++ [.yieldf (H.next + 1)] ++ captured) _ = some (e, u, H') → AfterCall P ρ H w c cs up { fr with todo := .endRangeFunc (H.next + 1) :: k, defers := .collected H.next :: fr.defers } H' e := fun {e u H'} hc =>
            have hc' := callC_some hc
            range_goes (e := e) (u := u) (H' := H') (up := up) hs hfr hm st.up st.glob
              (mv_range (cs := cs) hcm hct (by rw [hround]; exact he) hf (hc'.2 _ _)) rargs p2.1 (p1.2.trans p2.2) hc'.1
          split at h
          · rename_i v u H1 hc
            exact Goes.post hs (core hc) h
          · rename_i ch u H1 hc
            exact Goes.post hs (core hc) h
          · cases h
        · rename_i l g first captured hr hv
          rw [hr] at hround
          simp only at hround
          obtain ⟨hkn, loc, q1, q2⟩ := hround
          have rv := evA_rel (c := c) st.glob (st.frame.tmps (Dead.not hm)) _ _ hv
          simp only [RelV] at rv
          obtain ⟨g', a, b, hgg, hf, r1, r2⟩ := rv
          cases hgg
          split at h
          case h_2 => cases h
          rename_i r0 hl
          obtain ⟨loc', j1, j2, j3⟩ := st.heap.obj _ _ hl
          rw [q1] at j1
          cases j1
          simp only [RelO] at j3
          obtain ⟨r', j4, j5⟩ := j3
          have he : (Instr.enterLoop c.fn c.tmps ps assign body (some loc.b)).run P w = .ok (w.heap.size, []) (w.alloc (.loop { state := .ready, pending := none, fn := c.fn, tmps := c.tmps, params := ps, assign, body, defers := r'.defers })) := by
            unfold Instr.enterLoop
            simp only [Sem.run_bind, run_getLoop j4, run_newObj_alloc, Result.andThen, Sem.run_pure]
          have p2 := st.heap.push (o := .loop { state := .ready, pending := none, fn := fr.fn, n := fr.n, tmps := fr.tmps, params := ps, assign := assign, body := body, defers := r0.defers })
            (o' := .loop { state := .ready, pending := none, fn := c.fn, tmps := c.tmps, params := ps, assign, body, defers := r'.defers })
            (w' := w.alloc (.loop { state := .ready, pending := none, fn := c.fn, tmps := c.tmps, params := ps, assign, body, defers := r'.defers })) 0 rfl ⟨rfl, rfl⟩ (by
              have hle := Ren.le_add (l := ⟨w.heap.size, 0, Go.undef⟩) (st.heap.fresh _ (Nat.le_refl _))
              simp only [RelO]
              refine ⟨_, rfl, ⟨rfl, rfl, st.frame.fn, st.frame.has, (st.frame.tmps (Dead.not hm)).mono hle, rfl, rfl, rfl, ?_⟩⟩
              obtain ⟨ld, d1, d2⟩ := j5.defers
              exact ⟨ld, hle _ _ d1, d2⟩)
          have hle := p2.2.le
          have hfr : RelFr P (ρ.add H.next ⟨w.heap.size, 0, Go.undef⟩) { fr with todo := .endRangeFunc H.next :: k }
              { c with todo := .endRangeFunc w.heap.size :: xs, defers := [] ++ c.defers } := by
            have base := st.frame.mono hle
            refine ⟨base.fn, base.has, fun _ => base.tmps (Dead.not hm), fun _ => ?_, base.defers, base.mode, base.round⟩
            simp only [RelItems, RelItem]
            exact ⟨_, _, rfl, ⟨⟨w.heap.size, 0, Go.undef⟩, Ren.add_same _ _ _, rfl⟩, hxs.mono hle⟩
          have rargs : RelL (ρ.add H.next ⟨w.heap.size, 0, Go.undef⟩) (first ++ [.yieldf H.next] ++ captured) (a ++ #[Value.func (.yield w.heap.size) #[] #[]] ++ b).toList := by
            rw [Array.toList_append, Array.toList_append]
            refine ((RelL.mono hle _ _ r1).append ?_).append (RelL.mono hle _ _ r2)
            simp only [RelL, RelV]
            exact ⟨_, _, rfl, ⟨⟨w.heap.size, 0, Go.undef⟩, Ren.add_same _ _ _, rfl⟩, rfl⟩
          have core : ∀ {e u H'}, callC P rec .no g (first ++ [.yieldf H.next] ++ captured) _ = some (e, u, H') → AfterCall P ρ H w c cs up { fr with todo := .endRangeFunc H.next :: k } H' e := fun {e u H'} hc =>
            have hc' := callC_some hc
            range_goes (e := e) (u := u) (H' := H') (up := up) hs hfr hm st.up st.glob
              (mv_range (cs := cs) hcm hct (by rw [q2]; exact he) hf (hc'.2 _ _)) rargs p2.1 p2.2 hc'.1
          split at h
          · rename_i v u H1 hc
            exact Goes.post hs (core hc) h
          · rename_i ch u H1 hc
            exact Goes.post hs (core hc) h
          · cases h
        · cases h
      | goto l => cases h
      | refuse y => cases h

theorem unwind_post {rec : ARec} (hs : Sound P rec) {up : AUp} {fr : AFrame} {c : Frame} {cs : List Frame} {res : AEnd × AUp × AHeap} (st : St P ρ H w up fr c cs) (hm : fr.mode ≠ .run)
    (h : unwindA P rec up fr H = some res) : Post P ρ H w c cs res := by
  have hmode := st.frame.mode
  have hround := st.frame.round
  have hcm : c.mode ≠ .run := by
    cases hq : fr.mode with
    | run => exact absurd hq hm
    | returning => rw [hq] at hmode; simp only [RelMode] at hmode; rw [hmode]; intro e; cases e
    | panicking l => rw [hq] at hmode; simp only [RelMode] at hmode; obtain ⟨l', hl, _⟩ := hmode; rw [hl]; intro e; cases e
  have hdef := st.frame.defers
  unfold unwindA at h
  split at h
  · rename_i b ds hds
    rw [hds] at hdef
    simp only [RelDefs, RelDef] at hdef
    obtain ⟨d, ds', hcd, ⟨loc, q1, q2⟩, hrest⟩ := hdef
    split at h
    case h_2 => cases h
    rename_i calls hb
    obtain ⟨loc', j1, j2, j3⟩ := st.heap.obj _ _ hb
    rw [q1] at j1
    cases j1
    simp only [RelO] at j3
    obtain ⟨dd, j4, l', rfl, j5⟩ := j3
    have hturn := st.heap.turn (o₂ := .deferred none) (w' := w.putObj loc.b (.deferred none)) hb rfl q1 (by simp) ⟨rfl, rfl⟩ (fun b hb => World.putObj_heap_other hb) (by
      rw [World.putObj_heap_same j2]
      simp only [RelO]
      exact ⟨none, rfl, rfl⟩)
    have s1 := step_collected (P := P) (cs := cs) hcm hcd q2 (run_takeDeferred j4)
    have hg : Goes P ρ H w c cs up { fr with defers := calls ++ ds } (H.put b (.deferred none)) :=
      ⟨ρ, _, _, cs, Steps.one s1, hturn.2, ⟨hturn.1, st.glob, ⟨st.frame.fn, st.frame.has, (fun _ => st.frame.tmps (fun ⟨_, e⟩ => by rw [hds] at e; cases e)), fun e => absurd e hm, j5.append hrest, st.frame.mode, st.frame.round⟩, st.up⟩, SameUp.refl st.up, rfl, rfl, rfl⟩
    exact hg.post hs h
  · rename_i f args ds hds
    rw [hds] at hdef
    simp only [RelDefs, RelDef] at hdef
    obtain ⟨d, ds', hcd, ⟨f', cap, hff, q1, q2⟩, hrest⟩ := hdef
    cases hff
    have core : ∀ {res : AEnd × AUp × AHeap}, callC P rec (.deferred fr.mode) f args H = some res → ∃ ρ' w' c' m md, Ext ρ H w ρ' res.2.2 w' ∧ RelH P ρ' res.2.2 w' ∧
        Leaves P ρ' res.1 (Frame.enter P f (d.args ++ cap) .deferred) ({ c with defers := ds' } :: cs) w w' c' ({ c with defers := ds', mode := md } :: cs) ∧ c'.kind = .deferred ∧ res.2.1 = .deferred m ∧ RelMode ρ' m md ∧
        step P (lone c cs w) = .next (lone (Frame.enter P f (d.args ++ cap) .deferred) ({ c with defers := ds' } :: cs) w) := by
      intro res hc
      obtain ⟨hc1, hc2⟩ := callC_some hc
      obtain ⟨ρ', w', c', cs', e1, k1, l1, l2, l3, l4, l5, l6⟩ := callF_rel hs hc1 st.heap st.glob q2 (kind := .deferred) (cs := { c with defers := ds' } :: cs) ⟨rfl, _, _, rfl, hmode⟩
      obtain ⟨p, rest, md, m1, m2⟩ := l5
      cases m1
      subst m2
      have s1 := step_defer (P := P) (cs := cs) (w := w) hcm hcd q1 (by rw [q1]; exact hc2 _ _)
      cases hu : res.2.1 with
      | no => rw [hu] at l6; simp only [RelUp] at l6; cases l6
      | deferred m =>
        rw [hu] at l6
        obtain ⟨_, p, rest, n1, n2⟩ := l6
        cases n1
        exact ⟨ρ', w', c', m, md, e1, k1, l1, l3, rfl, n2, s1⟩
    split at h
    · rename_i v m H1 hc
      obtain ⟨ρ', w', c', m0, md, e1, k1, l1, l3, hmm, n2, s1⟩ := core hc
      cases hmm
      obtain ⟨v', m1, m2, m3, m4, m5⟩ := l1
      have s2 := (Steps.head s1 m2).trans (Steps.one (step_going_returned (c := { c with defers := ds', mode := md }) l3 ⟨m3, m4, m5⟩))
      have n3 := n2.settle
      have hle := e1.le
      have base := st.frame.mono hle
      have hg : settleA m ≠ .run → Goes P ρ H w c cs up { fr with defers := ds, mode := settleA m } H1 := fun hne =>
        ⟨ρ', w', _, cs, s2, e1, ⟨k1, st.glob.mono hle, ⟨base.fn, base.has, (fun _ => base.tmps (fun ⟨_, e⟩ => by rw [hds] at e; cases e)), fun e => absurd e hne, hrest.mono hle, n3, base.round⟩, st.up.mono hle⟩, SameUp.refl st.up, rfl, rfl, rfl⟩
      split at h
      · cases h
      · rename_i hne
        exact (hg hne).post hs h
    · rename_i ch m H1 hc
      obtain ⟨ρ', w', c', m0, md, e1, k1, l1, l3, hmm, n2, s1⟩ := core hc
      cases hmm
      obtain ⟨l', m1, m2, m3, m4, m5⟩ := l1
      have s2 := (Steps.head s1 m2).trans (Steps.one (step_going_panicked (c := { c with defers := ds', mode := md }) ⟨m3, m4, m5⟩))
      have hle := e1.le
      have base := st.frame.mono hle
      have hg : Goes P ρ H w c cs up (({ fr with defers := ds, mode := m } : AFrame).raise ch) H1 := by
        refine ⟨ρ', w', _, cs, s2, e1, ⟨k1, st.glob.mono hle, ?_, st.up.mono hle⟩, SameUp.refl st.up, rfl, rfl, rfl⟩
        unfold AFrame.raise raised
        cases m with
        | run =>
          simp only [RelMode] at n2
          subst n2
          exact ⟨base.fn, base.has, (fun _ => base.tmps (fun ⟨_, e⟩ => by rw [hds] at e; cases e)), (fun e => by cases e), hrest.mono hle, ⟨_, rfl, m1⟩, base.round⟩
        | returning =>
          simp only [RelMode] at n2
          subst n2
          exact ⟨base.fn, base.has, (fun _ => base.tmps (fun ⟨_, e⟩ => by rw [hds] at e; cases e)), (fun e => by cases e), hrest.mono hle, ⟨_, rfl, m1⟩, base.round⟩
        | panicking old =>
          simp only [RelMode] at n2
          obtain ⟨lo, rfl, n3⟩ := n2
          exact ⟨base.fn, base.has, (fun _ => base.tmps (fun ⟨_, e⟩ => by rw [hds] at e; cases e)), (fun e => by cases e), hrest.mono hle, ⟨_, rfl, m1.append n3⟩, base.round⟩
      exact hg.post hs h
    · cases h
  · cases h
  · rename_i hds
    rw [hds] at hdef
    simp only [RelDefs] at hdef
    split at h
    · cases h
    · rename_i ch hq
      cases h
      rw [hq] at hmode
      simp only [RelMode] at hmode
      obtain ⟨l, hl, hch⟩ := hmode
      refine ⟨ρ, w, Ext.refl _ _ _, st.heap, fun hn => ⟨c, cs, ⟨l, hch, Steps.refl _ _, hl, hdef, by rw [st.frame.fn]; exact st.frame.has⟩, rfl, rfl, hn, SameUp.refl st.up, st.up⟩, fun hn p rest hcs => ?_⟩
      subst hcs
      exact ⟨l, hch, Steps.one (step_leave_panicked ⟨hl, hdef, by rw [st.frame.fn]; exact st.frame.has⟩)⟩
    · rename_i hq
      split at h
      case h_2 => cases h
      rename_i g hr hf
      rw [hr] at hround
      simp only at hround
      rw [hq] at hmode
      simp only [RelMode] at hmode
      have hfc : P.funcs[c.fn]? = some g := by rw [st.frame.fn]; exact funcs_eq hf
      split at h
      · rename_i v hv
        cases h
        obtain ⟨v', r1, r2⟩ := results_run st.heap (st.frame.tmps (fun ⟨⟨_, e⟩, _⟩ => by rw [hq] at e; cases e)) hv
        exact ⟨ρ, w, Ext.refl _ _ _, st.heap, fun hn => ⟨c, cs, ⟨v', r2, Steps.refl _ _, hmode, hdef, g, hfc, r1⟩, rfl, rfl, hn, SameUp.refl st.up, st.up⟩, fun hn => absurd hround hn⟩
      · rename_i vs hne hv
        cases h
        obtain ⟨v', r1, r2⟩ := results_run st.heap (st.frame.tmps (fun ⟨⟨_, e⟩, _⟩ => by rw [hq] at e; cases e)) hv
        have r3 : RelV ρ (.tuple vs) v' := by
          cases vs with
          | nil => exact r2
          | cons a l => cases l with
            | nil => exact (hne a rfl).elim
            | cons b l => exact r2
        exact ⟨ρ, w, Ext.refl _ _ _, st.heap, fun hn => ⟨c, cs, ⟨v', r3, Steps.refl _ _, hmode, hdef, g, hfc, r1⟩, rfl, rfl, hn, SameUp.refl st.up, st.up⟩, fun hn => absurd hround hn⟩
      · cases h

theorem runF_sound (hd : ∀ rec, Sound P rec → DrawSound P rec) : ∀ n, Sound P (runF P n)
  | 0 => fun _ _ _ _ h => by cases h
  | n + 1 => fun up fr H res h ρ w c cs st => by
    have ih := runF_sound hd n
    have h' : (match fr.mode with
      | .run => stepA P (runF P n) up fr H
      | _ => unwindA P (runF P n) up fr H) = some res := h
    cases hm : fr.mode with
    | run => rw [hm] at h'; exact step_post ih (hd _ ih) st hm h'
    | returning => rw [hm] at h'; exact unwind_post ih st (by rw [hm]; intro e; cases e) h'
    | panicking l => rw [hm] at h'; exact unwind_post ih st (by rw [hm]; intro e; cases e) h'
end Go.Am
set_option linter.unusedSectionVars false
namespace Go.Am
variable {P : Program} [Orc P] [OrcOk P] {ρ : Ren} {H : AHeap} {w : World}

def endOf (ρ : Ren) : AEnd → Ending → Prop
  | .returned a, .returned v => RelV ρ a v
  | .panicked ch, .panicked l => RelChain ρ ch l
  | _, _ => False

theorem call_calls (hd : ∀ rec, Sound P rec → DrawSound P rec) {n : Nat} {f : FuncId} {args : List AV} {e : AEnd} {H' : AHeap} (h : call P n f args H = some (e, H')) (hh : RelH P ρ H w) (hg : Glob ρ)
    {args' : Array Value} (ra : RelL ρ args args'.toList) :
    Calls P f args' w fun e' w' => ∃ ρ', endOf ρ' e e' ∧ RelH P ρ' H' w' ∧ Ext ρ H w ρ' H' w' := by
  intro cs
  unfold call at h
  split at h
  case h_2 => cases h
  rename_i e1 u1 H1 hc
  cases h
  obtain ⟨ρ', w', c', cs', x1, k1, l1, l2, l3, l4, l5, l6⟩ := callF_rel (runF_sound hd n) hc hh hg ra (kind := .normal) (cs := cs) rfl
  simp only [SameUp] at l5
  subst l5
  cases e with
  | returned a =>
    obtain ⟨v, m1, m2, m3, m4, m5⟩ := l1
    exact ⟨.returned v, w', c', ⟨ρ', m1, k1, x1⟩, m2, l2, m3, m4, l3, m5⟩
  | panicked ch =>
    obtain ⟨l, m1, m2, m3, m4, m5⟩ := l1
    exact ⟨.panicked l, w', c', ⟨ρ', m1, k1, x1⟩, m2, l2, m3, m4, m5⟩
end Go.Am
set_option linter.unusedSectionVars false
namespace Go.Am
variable {P : Program} [Orc P] [OrcOk P] {ρ : Ren} {H : AHeap} {w : World} {ev : Operand → Option AV} {evc : Operand → Value} {o : Oper}

/-- What a making operation does: a new object, and what is known of it under every naming that names it. -/
def Makes (P : Program) [Orc P] [OrcOk P] (ρ : Ren) (H : AHeap) (w : World) (r : Result Next) (v : AV) (H' : AHeap) : Prop :=
  ∃ obj n o' v', H' = H.push obj ∧ r = .ok (.value v') { w with heap := w.heap.push o' } ∧
    ∀ ρ' : Ren, ρ.le ρ' → ρ' H.next = some ⟨w.heap.size, n, Go.undef⟩ → RelV ρ' v v' ∧ RelO P ρ' ⟨w.heap.size, n, Go.undef⟩ obj (some o')

theorem row_obj {l : List AV} (elem : TypeId) (tight : Bool) (hl : noAggs l = true) {c : Array Value} (hc : RelL ρ l c.toList) (e : TypeId) (b : Nat) {ρ' : Ren} (hle : ρ.le ρ') :
    RelO P ρ' ⟨b, c.size, Go.undef⟩ (.cells (Tree.putList .leaf 0 l) l.length elem tight false) (some (.cells c e)) := by
  have hlen := hc.length
  simp only [Array.length_toList] at hlen
  simp only [RelO]
  refine ⟨c, e, (0, 0), rfl, rfl, by omega, fun _ => hlen.symm, fun j hj => ?_, fun _ j _ => by simp⟩
  obtain ⟨v, hv, hr⟩ := hc.get (List.getElem?_eq_getElem hj)
  refine ⟨l[j], v, ?_, by simpa using hv, RelV.mono hle _ _ hr, noAggs_one hl _ (List.getElem_mem hj)⟩
  rw [Tree.get_putList]
  simp [hj]

theorem makes_rel (hev : ∀ x a, ev x = some a → RelV ρ a (evc x)) (hc : clsOf o = .makes) {v : AV} {H' : AHeap} (hx : execA P H ev o = some (.value v H')) (w : World) :
    Makes P ρ H w ((execOp evc o).run P w) v H' := by
  unfold execA at hx
  unfold clsOf at hc
  cases hop : o.op <;> rw [hop] at hx hc <;> simp only at hx hc <;> (try cases hc)
  case alloc elem =>
    split at hx
    case h_2 => cases hx
    rename_i z hz
    obtain ⟨hb, hx⟩ := cond_some hx rfl
    cases hx
    obtain ⟨v, hv, rv⟩ := zeroP_rel (ρ := ρ) (w := w) hz
    refine ⟨_, v.cells.size, .cells v.cells elem, .pointer (some ⟨w.heap.size, 0, none⟩), rfl, ?_, fun ρ' hle hn => ⟨?_, row_obj elem true hb rv.cells elem _ hle⟩⟩
    · unfold execOp
      rw [hop]
      simp [Instr.alloc, hv, run_newVar]
    · simp only [RelV]; exact ⟨_, hn, rfl⟩
  case box elem x =>
    split at hx
    case h_2 => cases hx
    rename_i a ha
    obtain ⟨hb, hx⟩ := cond_some hx rfl
    cases hx
    refine ⟨_, (evc x).cells.size, .cells (evc x).cells elem, .pointer (some ⟨w.heap.size, 0, none⟩), rfl, ?_, fun ρ' hle hn => ⟨?_, row_obj elem true hb (hev _ _ ha).cells elem _ hle⟩⟩
    · unfold execOp
      rw [hop]
      simp [Instr.box, run_newVar]
    · simp only [RelV]; exact ⟨_, hn, rfl⟩
  case buildSlice t len parts =>
    split at hx
    case h_2 => cases hx
    rename_i elem ps hu hp
    split at hx
    case h_2 => cases hx
    rename_i n z hn hz
    obtain ⟨hb, hx⟩ := cond_some hx rfl
    split at hx
    case h_2 => cases hx
    rename_i cs hf
    obtain ⟨hno, hx⟩ := cond_some hx rfl
    cases hx
    rw [Bool.and_eq_true, Bool.and_eq_true, Bool.and_eq_true] at hb
    have hmost := Nat.le_of_ble_eq_true hb.1.1.1
    have hzl := Nat.eq_of_beq_eq_true hb.1.1.2
    have hpos : 0 < n := Nat.le_of_ble_eq_true hb.1.2
    have hlen : 0 < len := Nat.le_of_ble_eq_true hb.2
    obtain ⟨v, hv, rv⟩ := zeroP_rel (ρ := ρ) (w := w) hz
    have hcl := rv.cells.length
    simp only [Array.length_toList] at hcl
    have hrep := repeat_rel rv.cells (by omega) len
    obtain ⟨rs, f1, f2, f3⟩ := fillA_rel (evalParts_rel hev hp) hrep hf
    have hlen2 := f2.length
    simp only [Array.length_toList] at hlen2
    have hsz : rs.size = len * n := by rw [hlen2, f3, repeatCells_length, hzl]
    refine ⟨_, rs.size, .cells rs elem, .slice (some ⟨w.heap.size, 0, none⟩) len len, rfl, ?_, fun ρ' hle hn' => ⟨?_, row_obj elem true hno f2 elem _ hle⟩⟩
    · unfold execOp
      rw [hop]
      have e2 : (Array.map (fun x => (x.fst, evc x.snd)) parts).toList = parts.toList.map fun p => (p.1, evc p.2) := by simp
      have hnz : ¬ len * n = 0 := by
        have := Nat.mul_pos hlen hpos
        omega
      have hcap : ¬ len * n > 2 ^ 24 := by unfold most at hmost; omega
      have hcv : v.cells.size = n := by omega
      rw [hcv] at f1
      simp only [Sem.run_bind, Instr.buildSlice, run_und hu, Result.andThen_ok, run_size hn, Sem.run_ite, if_neg hcap, if_neg hnz, Sem.run_pure, hv, e2, hcv, f1]
      simp [newRow]
    · simp only [RelV]
      refine ⟨_, hn', hpos, by simp only; omega, ?_⟩
      simp only [hsz, Nat.sub_zero, Nat.mul_div_cancel _ hpos]
  case makeMap t r =>
    have key : v = .map H.next ∧ H' = H.push (.map [] 0 false) ∧ (r = none ∨ ∃ x k e j n, r = some x ∧ und P t = some (.map k e) ∧ evc x = .int j n) := by
      cases r with
      | none => cases hx; exact ⟨rfl, rfl, Or.inl rfl⟩
      | some x =>
        simp only at hx
        split at hx
        case h_2 => cases hx
        rename_i k e j n ht hv
        cases hx
        have rv := hev _ _ hv
        simp only [RelV] at rv
        exact ⟨rfl, rfl, Or.inr ⟨x, k, e, j, n, rfl, ht, rv⟩⟩
    obtain ⟨rfl, rfl, hr⟩ := key
    refine ⟨_, 0, .map #[] 0, .map (some w.heap.size), rfl, ?_, fun ρ' hle hn => ⟨?_, ?_⟩⟩
    · unfold execOp
      rw [hop]
      rcases hr with rfl | ⟨x, k, e, j, n, rfl, hu, hx⟩
      · simp [Instr.makeMap]
      · simp [Instr.makeMap, run_und hu, hx, asInt, asIntOf]
    · simp only [RelV]; exact ⟨_, hn, rfl⟩
    · simp only [RelO]; exact ⟨#[], rfl, by simp [RelE]⟩
  case call c =>
    split at hc <;> cases hc

def AOut.at (H2 : AHeap) : AOut → AOut
  | .value v _ => .value v H2
  | x => x
/-- Values that hang on no memory. -/
theorem pure_map (hc : clsOf o = .pure) (H2 : AHeap) : (execA P H ev o).map (AOut.at H2) = execA P H2 ev o := by
  unfold execA
  unfold clsOf at hc
  cases hop : o.op <;> rw [hop] at hc <;> simp only at hc ⊢ <;> (try cases hc)
  case call c =>
    split at hc <;> cases hc
  all_goals try simp only [cond_eq_ite]
  all_goals (repeat' split) <;> first | rfl | contradiction
theorem pure_any (hc : clsOf o = .pure) {v : AV} {H' : AHeap} (hx : execA P H ev o = some (.value v H')) (H2 : AHeap) : H' = H ∧ execA P H2 ev o = some (.value v H2) := by
  have h1 := pure_map (P := P) (H := H) (ev := ev) hc H
  have h2 := pure_map (P := P) (H := H) (ev := ev) hc H2
  rw [hx] at h1 h2
  simp only [Option.map_some, AOut.at] at h1 h2
  cases h1
  exact ⟨rfl, h2.symm⟩
/-- What reads looks at no next number. -/
theorem reads_map (hc : clsOf o = .reads) (n : Nat) : (execA P H ev o).map (AOut.at ⟨H.objs, n⟩) = execA P ⟨H.objs, n⟩ ev o := by
  unfold execA
  unfold clsOf at hc
  cases hop : o.op <;> rw [hop] at hc <;> simp only at hc ⊢ <;> (try cases hc)
  case load t a =>
    split
    · rename_i i off ha
      have e : readVar P ⟨H.objs, n⟩ t i off = readVar P H t i off := rfl
      rw [e]
      split <;> rfl
    · rfl
  case lookup t x ix ok =>
    have e : ∀ m, entriesA ⟨H.objs, n⟩ m = entriesA H m := fun m => by cases m <;> rfl
    simp only [e]
    (repeat' split) <;> rfl
  case call c =>
    split at hc <;> (try cases hc)
    all_goals
      rename_i hb
      rw [hb]
      simp only
      split
      · rfl
      · unfold builtinA
        have e : ∀ t x, lenA P ⟨H.objs, n⟩ t x = lenA P H t x := fun t x => by unfold lenA; rfl
        simp only [e]
        (repeat' split) <;> first | rfl | contradiction
theorem reads_any (hc : clsOf o = .reads) {v : AV} {H' : AHeap} (hx : execA P H ev o = some (.value v H')) (n : Nat) : H' = H ∧ execA P ⟨H.objs, n⟩ ev o = some (.value v ⟨H.objs, n⟩) := by
  have h1 := reads_map (P := P) (H := H) (ev := ev) hc H.next
  have h2 := reads_map (P := P) (H := H) (ev := ev) hc n
  rw [hx] at h1 h2
  simp only [Option.map_some, AOut.at] at h1 h2
  cases h1
  exact ⟨rfl, h2.symm⟩
end Go.Am
