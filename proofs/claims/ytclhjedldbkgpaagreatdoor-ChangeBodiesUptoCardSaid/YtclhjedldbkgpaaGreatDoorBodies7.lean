/-
  Part 7 of the proof that winch/winchlaw25.ChangeBodies returns true for every two bodies of small bulk: lemmas.
  Conditions: none beyond each theorem's own premises.
  What lies here:
  The small evaluator's frames against the machine's: what a frame is there and here, and the machine's own moves for any frame.
  The small evaluator's calls and rounds against the machine's, for an operation in whatever frame.
  The small evaluator's moves against the machine's: operations in a frame, jumps, ends of rounds.
-/
import Derived.Test.YtclhjedldbkgpaaGreatDoorBodies6
import Derived.Calls
import Derived.RangeFuncRecord
import Derived.RangeFuncLeaves
set_option linter.unusedVariables false
set_option linter.unusedSimpArgs false
set_option linter.unusedSectionVars false
namespace Go.Am
variable {P : Program} [Orc P] [OrcOk P] {ρ : Ren}

def RelItem (ρ : Ren) : AItem → Item → Prop
  | .code c, x => x = .code c
  | .inBlock id, x => x = .inBlock id
  | .inLoop b, x => x = .inLoop b
  | .inScope b, x => x = .inScope b
  | .inRegion ops rest, x => ∃ l : List Nat, x = .inRegion ops l ∧ l.map (ops[·]?) = rest.map some
  | .endRangeFunc l, x => ∃ loc, ρ l = some loc ∧ x = .endRangeFunc loc.b
  | .beginRound, x => x = .beginRound
def RelItems (ρ : Ren) : List AItem → List Item → Prop
  | [], l => l = []
  | a :: avs, l => ∃ x xs, l = x :: xs ∧ RelItem ρ a x ∧ RelItems ρ avs xs
theorem RelItem.mono {ρ' : Ren} (h : ρ.le ρ') : ∀ {a : AItem} {x : Item}, RelItem ρ a x → RelItem ρ' a x
  | .code c, x, hr => hr
  | .inBlock id, x, hr => hr
  | .inLoop b, x, hr => hr
  | .inScope b, x, hr => hr
  | .inRegion ops rest, x, hr => hr
  | .endRangeFunc l, x, hr => by
    simp only [RelItem] at *
    obtain ⟨loc, h1, h2⟩ := hr
    exact ⟨loc, h _ _ h1, h2⟩
  | .beginRound, x, hr => hr
theorem RelItems.mono {ρ' : Ren} (h : ρ.le ρ') : ∀ {a : List AItem} {x : List Item}, RelItems ρ a x → RelItems ρ' a x
  | [], x, hr => by simp only [RelItems] at *; exact hr
  | a :: avs, l, hr => by
    simp only [RelItems] at *
    obtain ⟨x, xs, h1, h2, h3⟩ := hr
    exact ⟨x, xs, h1, h2.mono h, RelItems.mono h h3⟩

def RelChain (ρ : Ren) : List (AV × Bool) → List PanicEntry → Prop
  | [], l => l = []
  | (a, b) :: avs, l => ∃ v vs, l = { v := v, recovered := b, goexit := false } :: vs ∧ RelV ρ a v ∧ RelChain ρ avs vs
theorem RelChain.mono {ρ' : Ren} (h : ρ.le ρ') : ∀ {a : List (AV × Bool)} {l : List PanicEntry}, RelChain ρ a l → RelChain ρ' a l
  | [], l, hr => by simp only [RelChain] at *; exact hr
  | (a, b) :: avs, l, hr => by
    simp only [RelChain] at *
    obtain ⟨v, vs, h1, h2, h3⟩ := hr
    exact ⟨v, vs, h1, RelV.mono h _ _ h2, RelChain.mono h h3⟩
theorem RelChain.append : ∀ {a b : List (AV × Bool)} {l m : List PanicEntry}, RelChain ρ a l → RelChain ρ b m → RelChain ρ (a ++ b) (l ++ m)
  | [], b, l, m, h, k => by simp only [RelChain] at h; subst h; simpa using k
  | (a, r) :: avs, b, l, m, h, k => by
    simp only [RelChain] at h
    obtain ⟨v, vs, rfl, h2, h3⟩ := h
    simp only [List.cons_append, RelChain]
    exact ⟨v, vs ++ m, rfl, h2, RelChain.append h3 k⟩
theorem RelChain.one {a : AV} {v : Value} (h : RelV ρ a v) : RelChain ρ [(a, false)] [{ v := v, recovered := false }] := by
  simp only [RelChain]; exact ⟨v, [], rfl, h, rfl⟩
theorem RelChain.noexit : ∀ {a : List (AV × Bool)} {l : List PanicEntry}, RelChain ρ a l → l.dropWhile (!·.goexit) = []
  | [], l, h => by simp only [RelChain] at h; subst h; rfl
  | (a, r) :: avs, l, h => by
    simp only [RelChain] at h
    obtain ⟨v, vs, rfl, h2, h3⟩ := h
    simp [List.dropWhile_cons, RelChain.noexit h3]
def RelMode (ρ : Ren) : AMode → FrameMode → Prop
  | .run, m => m = .run
  | .returning, m => m = .returning
  | .panicking ch, m => ∃ ch', m = .panicking ch' ∧ RelChain ρ ch ch'
theorem RelMode.mono {ρ' : Ren} (h : ρ.le ρ') : ∀ {a : AMode} {m : FrameMode}, RelMode ρ a m → RelMode ρ' a m
  | .run, m, hr => hr
  | .returning, m, hr => hr
  | .panicking ch, m, hr => by
    simp only [RelMode] at *
    obtain ⟨l, h1, h2⟩ := hr
    exact ⟨l, h1, h2.mono h⟩
theorem RelMode.settle : ∀ {a : AMode} {m : FrameMode}, RelMode ρ a m → RelMode ρ (settleA a) (Go.settle m)
  | .run, m, h => by simp only [RelMode] at h; subst h; rfl
  | .returning, m, h => by simp only [RelMode] at h; subst h; rfl
  | .panicking [], m, h => by
    simp only [RelMode, RelChain] at h
    obtain ⟨l, rfl, rfl⟩ := h
    simp [settleA, Go.settle, RelMode, RelChain]
  | .panicking ((a, false) :: l), m, h => by
    simp only [RelMode, RelChain] at h
    obtain ⟨_, rfl, v, vs, rfl, h2, h3⟩ := h
    simp only [settleA, Go.settle, RelMode, RelChain]
    exact ⟨_, rfl, v, vs, rfl, h2, h3⟩
  | .panicking ((a, true) :: l), m, h => by
    simp only [RelMode, RelChain] at h
    obtain ⟨_, rfl, v, vs, rfl, h2, h3⟩ := h
    simp [settleA, Go.settle, RelMode, h3.noexit]

/-- A frame whose temporaries count no more. -/
def Dead (fr : AFrame) : Prop := (∃ ch, fr.mode = .panicking ch) ∧ fr.defers = []
theorem Dead.not {fr : AFrame} (h : fr.mode = .run) : ¬ Dead fr := fun ⟨⟨_, e⟩, _⟩ => by rw [h] at e; cases e
structure RelFr (P : Program) [Orc P] [OrcOk P] (ρ : Ren) (fr : AFrame) (c : Frame) : Prop where
  fn : c.fn = fr.fn
  has : ∃ g, P.funcs[fr.fn]? = some g
  tmps : ¬ Dead fr → RelT ρ fr.n fr.tmps c.tmps
  todo : fr.mode = .run → RelItems ρ fr.todo c.todo
  defers : RelDefs ρ fr.defers c.defers
  mode : RelMode ρ fr.mode c.mode
  round : match fr.round with
    | none => c.roundOf = none
    | some l => c.kind = .normal ∧ ∃ loc, ρ l = some loc ∧ c.roundOf = some loc.b
theorem RelFr.mono {ρ' : Ren} (h : ρ.le ρ') {fr : AFrame} {c : Frame} (hr : RelFr P ρ fr c) : RelFr P ρ' fr c := by
  refine ⟨hr.fn, hr.has, fun hm => (hr.tmps hm).mono h, fun hm => (hr.todo hm).mono h, hr.defers.mono h, hr.mode.mono h, ?_⟩
  have := hr.round
  cases hq : fr.round with
  | none => rw [hq] at this; exact this
  | some l => rw [hq] at this; obtain ⟨k, loc, h1, h2⟩ := this; exact ⟨k, loc, h _ _ h1, h2⟩

def RelUp (ρ : Ren) (up : AUp) (k : CallKind) (cs : List Frame) : Prop :=
  match up with
  | .no => k = .normal
  | .deferred m => k = .deferred ∧ ∃ p rest, cs = p :: rest ∧ RelMode ρ m p.mode
theorem RelUp.mono {ρ' : Ren} (h : ρ.le ρ') {up : AUp} {k : CallKind} {cs : List Frame} (hr : RelUp ρ up k cs) : RelUp ρ' up k cs := by
  cases up with
  | no => exact hr
  | deferred m => obtain ⟨h1, p, rest, h2, h3⟩ := hr; exact ⟨h1, p, rest, h2, h3.mono h⟩
/-- The frames above, before and after: a deferred call's may have another mode. -/
def SameUp (k : CallKind) (cs cs' : List Frame) : Prop :=
  match k with
  | .deferred => ∃ p rest m, cs = p :: rest ∧ cs' = { p with mode := m } :: rest
  | _ => cs' = cs
theorem SameUp.refl {k : CallKind} {up : AUp} {cs : List Frame} (h : RelUp ρ up k cs) : SameUp k cs cs := by
  cases up with
  | no => simp only [RelUp] at h; subst h; rfl
  | deferred m => obtain ⟨rfl, p, rest, rfl, _⟩ := h; exact ⟨p, rest, p.mode, rfl, rfl⟩
theorem SameUp.trans {k : CallKind} {a b c : List Frame} (h : SameUp k a b) (h' : SameUp k b c) : SameUp k a c := by
  cases k <;> simp only [SameUp] at *
  case deferred =>
    obtain ⟨p, rest, m, rfl, rfl⟩ := h
    obtain ⟨q, rest', m', h1, rfl⟩ := h'
    cases h1
    exact ⟨p, rest, m', rfl, rfl⟩
  all_goals (subst h; exact h')

/-- Package variables keep their numbers. -/
def Glob (ρ : Ren) : Prop := ∀ g, g < 1000 → ∃ l, ρ g = some l ∧ l.b = g
theorem Glob.mono {ρ' : Ren} (h : ρ.le ρ') (g : Glob ρ) : Glob ρ' := fun i hi => by obtain ⟨l, h1, h2⟩ := g i hi; exact ⟨l, h _ _ h1, h2⟩
/-- A whole state of a part of a run. -/
structure St (P : Program) [Orc P] [OrcOk P] (ρ : Ren) (H : AHeap) (w : World) (up : AUp) (fr : AFrame) (c : Frame) (cs : List Frame) : Prop where
  heap : RelH P ρ H w
  glob : Glob ρ
  frame : RelFr P ρ fr c
  up : RelUp ρ up c.kind cs
/-- The machine goes on to another state of the same frame. -/
def Goes (P : Program) [Orc P] [OrcOk P] (ρ : Ren) (H : AHeap) (w : World) (c : Frame) (cs : List Frame) (up' : AUp) (fr' : AFrame) (H' : AHeap) : Prop :=
  ∃ ρ' w' c' cs', Steps P (lone c cs w) (lone c' cs' w') ∧ Ext ρ H w ρ' H' w' ∧ St P ρ' H' w' up' fr' c' cs' ∧ SameUp c.kind cs cs' ∧ c'.fn = c.fn ∧ c'.kind = c.kind ∧ c'.roundOf = c.roundOf
/-- How the machine ends a frame. -/
def Leaves (P : Program) [Orc P] [OrcOk P] (ρ : Ren) (e : AEnd) (c : Frame) (cs : List Frame) (w0 : World) (w : World) (c' : Frame) (cs' : List Frame) : Prop :=
  match e with
  | .returned a => ∃ v, RelV ρ a v ∧ Steps P (lone c cs w0) (lone c' cs' w) ∧ c'.mode = .returning ∧ c'.defers = [] ∧ ∃ g, P.funcs[c'.fn]? = some g ∧ (results g c'.tmps).run P w = .ok v w
  | .panicked ch => ∃ l, RelChain ρ ch l ∧ Steps P (lone c cs w0) (lone c' cs' w) ∧ c'.mode = .panicking l ∧ c'.defers = [] ∧ ∃ g, P.funcs[c'.fn]? = some g
def Lands (P : Program) [Orc P] [OrcOk P] (ρ : Ren) (e : AEnd) (c : Frame) (p : Frame) (rest : List Frame) (w0 : World) (w : World) : Prop :=
  match e with
  | .returned a => ∃ v, RelV ρ a v ∧ Steps P (lone c (p :: rest) w0) (lone (p.finish v) rest w)
  | .panicked ch => ∃ l, RelChain ρ ch l ∧ Steps P (lone c (p :: rest) w0) (lone (p.raise l) rest w)
def Post (P : Program) [Orc P] [OrcOk P] (ρ : Ren) (H : AHeap) (w : World) (c : Frame) (cs : List Frame) (res : AEnd × AUp × AHeap) : Prop :=
  ∃ ρ' w', Ext ρ H w ρ' res.2.2 w' ∧ RelH P ρ' res.2.2 w' ∧
    (c.roundOf = none → ∃ c' cs', Leaves P ρ' res.1 c cs w w' c' cs' ∧ c'.fn = c.fn ∧ c'.kind = c.kind ∧ c'.roundOf = none ∧ SameUp c.kind cs cs' ∧ RelUp ρ' res.2.1 c.kind cs') ∧
    (c.roundOf ≠ none → ∀ p rest, cs = p :: rest → Lands P ρ' res.1 c p rest w w')
def Sound (P : Program) [Orc P] [OrcOk P] (rec : ARec) : Prop :=
  ∀ up fr H res, rec up fr H = some res → ∀ ρ w c cs, St P ρ H w up fr c cs → Post P ρ H w c cs res

theorem Goes.post {rec : ARec} (hs : Sound P rec) {H : AHeap} {w : World} {c : Frame} {cs : List Frame} {up' : AUp} {fr' : AFrame} {H' : AHeap} {res : AEnd × AUp × AHeap}
    (hg : Goes P ρ H w c cs up' fr' H') (hr : rec up' fr' H' = some res) : Post P ρ H w c cs res := by
  obtain ⟨ρ1, w1, c1, cs1, s1, e1, st1, u1, f1, k1, r1⟩ := hg
  obtain ⟨ρ2, w2, e2, h2, a2, b2⟩ := hs _ _ _ _ hr _ _ _ _ st1
  refine ⟨ρ2, w2, e1.trans e2, h2, fun hn => ?_, fun hn p rest hcs => ?_⟩
  · obtain ⟨c3, cs3, l3, f3, k3, q3, u3, v3⟩ := a2 (r1.trans hn)
    refine ⟨c3, cs3, ?_, f3.trans f1, k3.trans k1, q3, u1.trans (k1 ▸ u3), k1 ▸ v3⟩
    unfold Leaves at *
    split at l3
    · obtain ⟨v, q1, q2, q3⟩ := l3; exact ⟨v, q1, s1.trans q2, q3⟩
    · obtain ⟨l, q1, q2, q3⟩ := l3; exact ⟨l, q1, s1.trans q2, q3⟩
  · have hround := st1.frame.round
    have hk : c.kind = .normal := by
      cases hq : fr'.round with
      | none => rw [hq] at hround; exact absurd (r1 ▸ hround) hn
      | some l => rw [hq] at hround; exact k1 ▸ hround.1
    rw [hk] at u1
    simp only [SameUp] at u1
    have l3 := b2 (r1 ▸ hn) p rest (u1.trans hcs)
    subst hcs
    subst u1
    unfold Lands at *
    split at l3
    · obtain ⟨v, q1, q2⟩ := l3; exact ⟨v, q1, s1.trans q2⟩
    · obtain ⟨l, q1, q2⟩ := l3; exact ⟨l, q1, s1.trans q2⟩
theorem Goes.trans {H : AHeap} {w : World} {c : Frame} {cs : List Frame} {up' up'' : AUp} {fr' fr'' : AFrame} {H' H'' : AHeap} (hg : Goes P ρ H w c cs up' fr' H')
    (hk : ∀ ρ' w' c' cs', St P ρ' H' w' up' fr' c' cs' → Goes P ρ' H' w' c' cs' up'' fr'' H'') : Goes P ρ H w c cs up'' fr'' H'' := by
  obtain ⟨ρ1, w1, c1, cs1, s1, e1, st1, u1, f1, k1, r1⟩ := hg
  obtain ⟨ρ2, w2, c2, cs2, s2, e2, st2, u2, f2, k2, r2⟩ := hk _ _ _ _ st1
  exact ⟨ρ2, w2, c2, cs2, s1.trans s2, e1.trans e2, st2, u1.trans (k1 ▸ u2), f2.trans f1, k2.trans k1, r2.trans r1⟩
/-- A step that changes no memory and nothing of the frame but what remains to be done. -/
theorem St.goTodo {H : AHeap} {w : World} {up : AUp} {fr : AFrame} {c : Frame} {cs : List Frame} (st : St P ρ H w up fr c cs) {todo : List AItem} {todo' : List Item}
    (hs : step P (lone c cs w) = .next (lone { c with todo := todo' } cs w)) (ht : RelItems ρ todo todo') : Goes P ρ H w c cs up { fr with todo := todo } H :=
  ⟨ρ, w, { c with todo := todo' }, cs, Steps.one hs, Ext.refl _ _ _, ⟨st.heap, st.glob, { st.frame with todo := fun _ => ht, tmps := fun hd => st.frame.tmps hd }, st.up⟩, SameUp.refl st.up, rfl, rfl, rfl⟩

/- The machine's moves. -/
section
variable {c : Frame} {cs : List Frame} {w : World} {k : List Item}
theorem mv_skip (hm : c.mode = .run) (ht : c.todo = .code .skip :: k) : step P (lone c cs w) = .next (lone { c with todo := k } cs w) := step_lone_go (by simp [stepG, stepG.exec, hm, ht])
theorem mv_label {l : Nat} (hm : c.mode = .run) (ht : c.todo = .code (.label l) :: k) : step P (lone c cs w) = .next (lone { c with todo := k } cs w) := step_lone_go (by simp [stepG, stepG.exec, hm, ht])
theorem mv_inBlock {l : Nat} (hm : c.mode = .run) (ht : c.todo = .inBlock l :: k) : step P (lone c cs w) = .next (lone { c with todo := k } cs w) := step_lone_go (by simp [stepG, stepG.exec, hm, ht])
theorem mv_inScope {b : Code} (hm : c.mode = .run) (ht : c.todo = .inScope b :: k) : step P (lone c cs w) = .next (lone { c with todo := k } cs w) := step_lone_go (by simp [stepG, stepG.exec, hm, ht])
theorem mv_inLoop {b : Code} (hm : c.mode = .run) (ht : c.todo = .inLoop b :: k) : step P (lone c cs w) = .next (lone { c with todo := .code b :: .inLoop b :: k } cs w) := step_lone_go (by simp [stepG, stepG.exec, hm, ht])
theorem mv_loop {b : Code} (hm : c.mode = .run) (ht : c.todo = .code (.loop b) :: k) : step P (lone c cs w) = .next (lone { c with todo := .code b :: .inLoop b :: k } cs w) := step_lone_go (by simp [stepG, stepG.exec, hm, ht])
theorem mv_scope {b : Code} (hm : c.mode = .run) (ht : c.todo = .code (.scope b) :: k) : step P (lone c cs w) = .next (lone { c with todo := .code b :: .inScope b :: k } cs w) := step_lone_go (by simp [stepG, stepG.exec, hm, ht])
theorem mv_block {id : Nat} {b : Code} (hm : c.mode = .run) (ht : c.todo = .code (.block id b) :: k) : step P (lone c cs w) = .next (lone { c with todo := .code b :: .inBlock id :: k } cs w) := step_lone_go (by simp [stepG, stepG.exec, hm, ht])
theorem mv_seq {a b : Code} (hm : c.mode = .run) (ht : c.todo = .code (.seq a b) :: k) : step P (lone c cs w) = .next (lone { c with todo := .code a :: .code b :: k } cs w) := step_lone_go (by simp [stepG, stepG.exec, hm, ht])
theorem mv_cond {x : Operand} {a b : Code} {t : Bool} (hm : c.mode = .run) (ht : c.todo = .code (.cond x a b) :: k) (hx : c.eval x = .bool t) :
    step P (lone c cs w) = .next (lone { c with todo := .code (if t then a else b) :: k } cs w) := step_lone_go (by simp [stepG, stepG.exec, hm, ht, hx])
theorem mv_exit {id : Nat} {k' : List Item} (hm : c.mode = .run) (ht : c.todo = .code (.exit id) :: k) (hx : exitTo id k = some k') :
    step P (lone c cs w) = .next (lone { c with todo := k' } cs w) := step_lone_go (by simp [stepG, stepG.exec, hm, ht, hx])
theorem mv_region {id : Nat} {ops : Array Oper} (hm : c.mode = .run) (ht : c.todo = .code (.region id ops false) :: k) :
    step P (lone c cs w) = .next (lone { c with todo := .inRegion ops (List.range ops.size) :: k } cs w) := step_lone_go (by simp [stepG, stepG.exec, hm, ht])
theorem mv_draw {id : Nat} {ops : Array Oper} (hm : c.mode = .run) (ht : c.todo = .code (.region id ops true) :: k) :
    step P (lone c cs w) = .next (lone { c with todo := .inRegion ops (Region.schedule (P.follows .mixedOrders) ops (w.tape w.drawn (.order c.fn id))) :: k } cs { w with drawn := w.drawn + 1 }) :=
  step_lone_go (by simp [stepG, stepG.exec, hm, ht, choose, Sem.run, Question.forced, Question.cut])
theorem mv_regionEnd {ops : Array Oper} (hm : c.mode = .run) (ht : c.todo = .inRegion ops [] :: k) : step P (lone c cs w) = .next (lone { c with todo := k } cs w) := step_lone_go (by simp [stepG, stepG.exec, hm, ht])
theorem mv_ret_plain (hm : c.mode = .run) (hr : c.roundOf = none) (ht : c.todo = [] ∨ c.todo = .code .ret :: k) : step P (lone c cs w) = .next (lone { c with mode := .returning } cs w) := by
  rcases ht with ht | ht
  · exact step_lone_go (by simp [stepG, stepG.exec, hm, ht, hr])
  · exact step_lone_go (by simp [stepG, stepG.exec, hm, ht, hr])
theorem mv_skipOp {ops : Array Oper} {i : Nat} {l : List Nat} (hm : c.mode = .run) (ht : c.todo = .inRegion ops (i :: l) :: k) (h : ((ops[i]?).map (Region.wanted · (yielded ops c.tmps))).getD false = false) :
    step P (lone c cs w) = .next (lone (c.finish undef) cs w) := step_lone_go (by simp [stepG, stepG.exec, hm, ht, h])
end
end Go.Am
set_option linter.unusedSectionVars false
namespace Go.Am
variable {P : Program} [Orc P] [OrcOk P] {ρ : Ren} {H : AHeap} {w : World}

theorem evA_rel (hg : Glob ρ) {n : Nat} {t : Tree AV} {c : Frame} (ht : RelT ρ n t c.tmps) : ∀ x a, evA t x = some a → RelV ρ a (c.eval x) := by
  intro x a h
  cases x with
  | tmp i => simp only [evA] at h; exact (ht.val i).some h
  | const v => exact ofConst_rel h
  | global g =>
    simp only [evA] at h
    obtain ⟨hb, h⟩ := cond_some h rfl
    cases h
    obtain ⟨l, h1, h2⟩ := hg g (Nat.le_of_ble_eq_true hb)
    simp only [RelV]
    exact ⟨l, h1, by rw [h2]; rfl⟩
  | func f =>
    simp only [evA] at h
    cases h
    simp only [RelV]
    exact ⟨f, #[], #[], rfl, rfl, rfl, rfl⟩

theorem wanted_core {t : Tree AV} {tmps : Array Value} {d : Tmp} {want : Bool} (hv : RelJ ρ (tmpOf t d) (tmps.getD d Go.undef)) (hk : knownG (tmpOf t d) = true) :
    ((match tmps[d]? with
      | some (Value.bool b) => some b
      | _ => none) == some want) =
    match t.get d with
    | some (AV.bool b) => boolEq b want
    | _ => false := by
  have hg : tmps.getD d Go.undef = (tmps[d]?).getD Go.undef := by simp [Array.getD_eq_getD_getElem?]
  rw [hg] at hv
  have hv := hv.known (fun e => by rw [e] at hk; cases hk)
  unfold tmpOf at hv hk
  cases hd : t.get d with
  | none =>
    rw [hd] at hv
    simp only [AV.undef, RelV] at hv
    obtain ⟨c, hc, _⟩ := hv
    cases hq : tmps[d]? with
    | none => rfl
    | some v => rw [hq] at hc; simp only [Option.getD_some] at hc; subst hc; rfl
  | some a =>
    rw [hd] at hv hk
    simp only at hv hk
    cases hq : tmps[d]? with
    | none =>
      rw [hq] at hv
      simp only [Option.getD_none] at hv
      cases a <;> (try cases hk) <;> simp only [RelV, Go.undef] at hv <;> simp_all
    | some v =>
      rw [hq] at hv
      simp only [Option.getD_some] at hv
      cases a with
      | bool b => simp only [RelV] at hv; subst hv; simp [boolEq_eq]
      | sym i => cases hk
      | junk => cases hk
      | _ => simp only [RelV] at hv; first | (subst hv; rfl) | (obtain ⟨_, _, _, _, rfl⟩ := hv; rfl) | (obtain ⟨_, _, rfl⟩ := hv; rfl) | (obtain ⟨_, rfl, _⟩ := hv; rfl) | (obtain ⟨_, _, _, _, rfl, _⟩ := hv; rfl)
theorem wanted_eq {n : Nat} {t : Tree AV} {tmps : Array Value} (ht : RelT ρ n t tmps) (ops : Array Oper) (o : Oper) (hk : guardOk ops t o = true) : Region.wanted o (yielded ops tmps) = wantedA ops t o := by
  unfold Region.wanted wantedA
  unfold guardOk at hk
  cases hg : o.guard with
  | none => rfl
  | some g =>
    obtain ⟨j, want⟩ := g
    rw [hg] at hk
    simp only [yielded, Array.getElem?_toList] at hk ⊢
    cases hj : ops[j]? with
    | none => simp
    | some p =>
      rw [hj] at hk
      simp only [Option.bind_some] at hk ⊢
      cases hd : p.dst with
      | none => simp
      | some d =>
        rw [hd] at hk
        simp only [Option.bind_some] at hk ⊢
        exact wanted_core (ht.val d) hk

/- The machine's moves at an operation. -/
section
variable {c : Frame} {cs : List Frame} {k : List Item} {ops : Array Oper} {i : Nat} {l : List Nat} {o : Oper} {w' : World}
/-- A frame stands at an operation that is wanted. -/
structure AtOp (c : Frame) (ops : Array Oper) (i : Nat) (l : List Nat) (k : List Item) (o : Oper) : Prop where
  mode : c.mode = .run
  todo : c.todo = .inRegion ops (i :: l) :: k
  op : ops[i]? = some o
  wanted : Region.wanted o (yielded ops c.tmps) = true
theorem AtOp.gen (h : AtOp c ops i l k o) (hd : c.roundOf = none ∨ ∀ x, o.op ≠ .defer x) :
    stepG P true { frame := c, callers := cs, status := .running, dying := none } w = stepG.apply P true c cs none (execOp c.eval o) w := by
  have e1 : stepG P true { frame := c, callers := cs, status := .running, dying := none } w = stepG.oper P true c cs none w := by
    simp [stepG, stepG.exec, h.mode, h.todo, h.op, h.wanted]
  rw [e1]
  unfold stepG.oper
  have : c.oper? = some o := by simp [Frame.oper?, h.todo, h.op]
  rw [this]
  simp only
  cases hr : c.roundOf with
  | none => rfl
  | some r =>
    rcases hd with hd | hd
    · rw [hr] at hd; cases hd
    · cases ho : o.op <;> first | rfl | exact absurd ho (hd _)
theorem mv_value {v : Value} (h : AtOp c ops i l k o) (hd : c.roundOf = none ∨ ∀ x, o.op ≠ .defer x) (hr : (execOp c.eval o).run P w = .ok (.value v) w') :
    step P (lone c cs w) = .next (lone (c.finish v) cs w') :=
  step_lone_go (by rw [h.gen hd]; simp only [stepG.apply, Sem.runT_eq, hr]; simp)
theorem mv_skipped (h : AtOp c ops i l k o) (hd : c.roundOf = none ∨ ∀ x, o.op ≠ .defer x) (hr : (execOp c.eval o).run P w = .ok .skip w') :
    step P (lone c cs w) = .next (lone (c.finish undef) cs w') :=
  step_lone_go (by rw [h.gen hd]; simp only [stepG.apply, Sem.runT_eq, hr]; simp)
theorem mv_enter {f : FuncId} {args : Array Value} (h : AtOp c ops i l k o) (hd : c.roundOf = none ∨ ∀ x, o.op ≠ .defer x) (hr : (execOp c.eval o).run P w = .ok (.enter f args) w') :
    step P (lone c cs w) = .next (lone (Frame.enter P f args .normal) (c :: cs) w') :=
  step_lone_go (by rw [h.gen hd]; simp only [stepG.apply, Sem.runT_eq, hr, h.todo]; simp)
theorem mv_round {r : Nat} {f : FuncId} {tmps : Array Value} {assign body : Code} (h : AtOp c ops i l k o) (hd : c.roundOf = none ∨ ∀ x, o.op ≠ .defer x) (hr : (execOp c.eval o).run P w = .ok (.round r f tmps assign body) w') :
    step P (lone c cs w) = .next (lone (Frame.round r f tmps assign body .normal) (c :: cs) w') :=
  step_lone_go (by rw [h.gen hd]; simp only [stepG.apply, Sem.runT_eq, hr, h.todo]; simp)
theorem mv_defer {d : Deferred} (h : AtOp c ops i l k o) (hd : c.roundOf = none) (hr : (execOp c.eval o).run P w = .ok (.defer d) w') :
    step P (lone c cs w) = .next (lone (({ c with defers := d :: c.defers } : Frame).finish undef) cs w') :=
  step_lone_go (by rw [h.gen (Or.inl hd)]; simp only [stepG.apply, Sem.runT_eq, hr]; simp)
theorem mv_panic {v : Value} (h : AtOp c ops i l k o) (hd : c.roundOf = none ∨ ∀ x, o.op ≠ .defer x) (hr : (execOp c.eval o).run P w = .halt (.panic v) w') :
    step P (lone c cs w) = .next (lone (c.raise [{ v, recovered := false }]) cs w') :=
  step_lone_go (by rw [h.gen hd]; simp only [stepG.apply, Sem.runT_eq, hr]; simp)
theorem mv_recover (h : AtOp c ops i l k o) (hd : c.roundOf = none) (hr : (execOp c.eval o).run P w = .ok .recover w') :
    step P (lone c cs w) = .next (match tryRecover c cs with
      | some (v, cs') => lone (c.finish v) cs' w'
      | none => lone (c.finish .nilIface) cs w') := by
  cases ht : tryRecover c cs with
  | none => exact step_lone_go (by rw [h.gen (Or.inl hd)]; simp only [stepG.apply, Sem.runT_eq, hr, hd, ht]; simp)
  | some p =>
    obtain ⟨v, cs'⟩ := p
    exact step_lone_go (by rw [h.gen (Or.inl hd)]; simp only [stepG.apply, Sem.runT_eq, hr, hd, ht]; simp)
end

/-- How an operation that gives a value, or raises, does in the machine. -/
def DoesV (P : Program) [Orc P] [OrcOk P] (ρ : Ren) (H : AHeap) (w : World) (c : Frame) (cs : List Frame) (v : AV) (H' : AHeap) : Prop :=
  ∃ ρ' v' w', Steps P (lone c cs w) (lone (c.finish v') cs w') ∧ RelV ρ' v v' ∧ RelH P ρ' H' w' ∧ Ext ρ H w ρ' H' w'
def DoesP (P : Program) [Orc P] [OrcOk P] (ρ : Ren) (H : AHeap) (w : World) (c : Frame) (cs : List Frame) (ch : List (AV × Bool)) (H' : AHeap) : Prop :=
  ∃ ρ' l w', Steps P (lone c cs w) (lone (c.raise l) cs w') ∧ RelChain ρ' ch l ∧ RelH P ρ' H' w' ∧ Ext ρ H w ρ' H' w'

theorem enter_tmps {n : Nat} {args : List AV} {args' : Array Value} (ra : RelL ρ args args'.toList) (hn : args.length ≤ n) :
    RelT ρ n (Tree.putList .leaf 0 args) (args' ++ Array.replicate (n - args'.size) Go.undef) := by
  have hl := ra.length
  simp only [Array.length_toList] at hl
  refine ⟨by simp; omega, fun i => ?_⟩
  unfold tmpOf
  rw [Tree.get_putList]
  by_cases hi : i < args.length
  · obtain ⟨v, h1, h2⟩ := ra.get (List.getElem?_eq_getElem hi)
    have h1' : args'[i]? = some v := by simpa using h1
    simp only [Nat.zero_le, Nat.zero_add, hi, and_self, if_true, Nat.sub_zero, List.getElem?_eq_getElem hi, Array.getD_eq_getD_getElem?]
    rw [Array.getElem?_append_left (by omega), h1']
    exact Or.inr h2
  · have : (args' ++ Array.replicate (n - args'.size) Go.undef).getD i Go.undef = Go.undef := by
      rw [Array.getD_eq_getD_getElem?, Array.getElem?_append_right (by omega)]
      simp only [Array.getElem?_replicate]
      split <;> rfl
    rw [this]
    simp only [Nat.zero_le, Nat.zero_add, hi, and_false, if_false]
    exact Or.inr (relV_undef ρ)

theorem callF_rel {rec : ARec} (hs : Sound P rec) {up : AUp} {f : FuncId} {args : List AV} {res : AEnd × AUp × AHeap} (h : callF P rec up f args H = some res) (hh : RelH P ρ H w) (hg : Glob ρ)
    {args' : Array Value} (ra : RelL ρ args args'.toList) {kind : CallKind} {cs : List Frame} (hup : RelUp ρ up kind cs) :
    ∃ ρ' w' c' cs', Ext ρ H w ρ' res.2.2 w' ∧ RelH P ρ' res.2.2 w' ∧ Leaves P ρ' res.1 (Frame.enter P f args' kind) cs w w' c' cs' ∧ c'.fn = f ∧ c'.kind = kind ∧ c'.roundOf = none ∧ SameUp kind cs cs' ∧ RelUp ρ' res.2.1 kind cs' := by
  unfold callF at h
  split at h
  case h_1 => cases h
  rename_i g hf
  split at h
  case h_1 => cases h
  rename_i b hb
  obtain ⟨hn, h⟩ := cond_some h rfl
  have hf' := funcs_eq hf
  have st : St P ρ H w up (entered f g.ntmps args b) (Frame.enter P f args' kind) cs := by
    refine ⟨hh, hg, ⟨rfl, ⟨g, hf'⟩, ?_, ?_, ?_, rfl, rfl⟩, hup⟩
    · intro _; simpa [entered, Frame.enter, hf'] using enter_tmps ra (Nat.le_of_ble_eq_true hn)
    · intro _; simp [entered, Frame.enter, hf', hb, RelItems, RelItem]
    · simp [entered, Frame.enter, RelDefs]
  obtain ⟨ρ', w', e1, h1, a1, _⟩ := hs _ _ _ _ h _ _ _ _ st
  obtain ⟨c', cs', q1, q2, q3, q4, q5, q6⟩ := a1 rfl
  exact ⟨ρ', w', c', cs', e1, h1, q1, q2, q3, q4, q5, q6⟩

theorem bindTmps_rel {n : Nat} : ∀ {ps : List Tmp} {avs : List AV} {t t' : Tree AV} {vs : List Value} {tmps : Array Value}, RelT ρ n t tmps → RelL ρ avs vs → bindTmps t n ps avs = some t' →
    vs.length = ps.length ∧ RelT ρ n t' ((ps.zip vs).foldl (fun tmps (p : Tmp × Value) => tmps.setIfInBounds p.1 p.2) tmps)
  | [], [], t, t', vs, tmps, ht, ha, h => by
    simp only [RelL] at ha
    subst ha
    unfold bindTmps at h
    cases h
    exact ⟨rfl, ht⟩
  | p :: ps, a :: avs, t, t', vs, tmps, ht, ha, h => by
    simp only [RelL] at ha
    obtain ⟨v, vs, rfl, h1, h2⟩ := ha
    unfold bindTmps at h
    obtain ⟨hb, h⟩ := cond_some h rfl
    have ih := bindTmps_rel (ht.put (Nat.le_of_ble_eq_true hb) (Or.inr h1)) h2 h
    exact ⟨by simp [ih.1], by simpa using ih.2⟩
  | [], _ :: _, t, t', vs, tmps, ht, ha, h => by unfold bindTmps at h; cases h
  | _ :: _, [], t, t', vs, tmps, ht, ha, h => by unfold bindTmps at h; cases h

section
variable {c : Frame} {cs : List Frame} {k : List Item} {ops : Array Oper} {i : Nat} {l : List Nat} {o : Oper}
theorem no_defer {ev : Operand → Option AV} {out : AOut} (hx : execO P H ev o = some out) (ho : ∀ d, out ≠ .defer d) : ∀ x, o.op ≠ .defer x := by
  intro x hop
  rcases execO_cases hx with ⟨v, ha, _⟩ | ⟨_, hx⟩
  · have hc := (askA_cls ha).1
    unfold clsOf at hc
    rw [hop] at hc
    rcases hc with hc | hc <;> cases hc
  unfold execA at hx
  rw [hop] at hx
  simp only at hx
  split at hx
  · cases hx
  · split at hx
    · split at hx
      · cases hx; exact ho _ rfl
      · cases hx
    · cases hx

theorem does_value {ev : Operand → Option AV} (h : AtOp c ops i l k o) (hh : RelH P ρ H w) (hev : ∀ x a, ev x = some a → RelV ρ a (c.eval x)) {v : AV} {H' : AHeap} (hx : execO P H ev o = some (.value v H')) : DoesV P ρ H w c cs v H' := by
  have hr := execO_rel hh hev hx
  obtain ⟨ρ', v', w', h1, h2, h3, h4⟩ := hr
  exact ⟨ρ', v', w', Steps.one (mv_value h (Or.inr (no_defer hx (fun d e => by cases e))) h1), h2, h3, h4⟩
theorem does_skip {ev : Operand → Option AV} (h : AtOp c ops i l k o) (hh : RelH P ρ H w) (hev : ∀ x a, ev x = some a → RelV ρ a (c.eval x)) {H' : AHeap} (hx : execO P H ev o = some (.skip H')) : DoesV P ρ H w c cs .undef H' := by
  have hr := execO_rel hh hev hx
  obtain ⟨ρ', w', h1, h3, h4⟩ := hr
  exact ⟨ρ', Go.undef, w', Steps.one (mv_skipped h (Or.inr (no_defer hx (fun d e => by cases e))) h1), relV_undef _, h3, h4⟩
theorem does_panic {ev : Operand → Option AV} (h : AtOp c ops i l k o) (hh : RelH P ρ H w) (hev : ∀ x a, ev x = some a → RelV ρ a (c.eval x)) {v : AV} (hx : execO P H ev o = some (.panic v)) : DoesP P ρ H w c cs [(v, false)] H := by
  have hr := execO_rel hh hev hx
  obtain ⟨v', h1, h2⟩ := hr
  exact ⟨ρ, _, w, Steps.one (mv_panic h (Or.inr (no_defer hx (fun d e => by cases e))) h1), RelChain.one h2, hh, Ext.refl _ _ _⟩
theorem does_enter {rec : ARec} (hs : Sound P rec) (hg : Glob ρ) {ev : Operand → Option AV} (h : AtOp c ops i l k o) (hh : RelH P ρ H w) (hev : ∀ x a, ev x = some a → RelV ρ a (c.eval x)) {f : FuncId} {args : List AV} (hx : execO P H ev o = some (.enter f args))
    {e : AEnd} {u : AUp} {H' : AHeap} (hc : callO P rec f args H = some (e, u, H')) : match e with
      | .returned v => DoesV P ρ H w c cs v H'
      | .panicked ch => DoesP P ρ H w c cs ch H' := by
  have hr := execO_rel hh hev hx
  obtain ⟨args', h1, h2⟩ := hr
  have s1 := mv_enter (cs := cs) h (Or.inr (no_defer hx (fun d e => by cases e))) h1
  unfold callO at hc
  split at hc
  · rename_i v ha
    cases hc
    obtain ⟨_, ha⟩ := cond_some ha rfl
    obtain ⟨e', w', fr, ⟨v', rv, rfl, gr⟩, st, _, lv⟩ := OrcOk.call f args H v ha ρ hh.base args' h2 w hh.kept hh.obj (c :: cs)
    obtain ⟨g1, g2⟩ := hh.grows gr
    exact ⟨ρ, v', w', (Steps.head s1 st).trans (Steps.one (step_leave_returned lv)), rv, g1, g2⟩
  obtain ⟨ρ', w', c', cs', e1, k1, l1, l2, l3, l4, l5, l6⟩ := callF_rel hs hc hh hg h2 (kind := .normal) (cs := c :: cs) rfl
  simp only [SameUp] at l5
  subst l5
  cases e with
  | returned v =>
    obtain ⟨v', m1, m2, m3, m4, m5⟩ := l1
    exact ⟨ρ', v', w', (Steps.head s1 m2).trans (Steps.one (step_leave_returned ⟨m3, m4, l3, m5⟩)), m1, k1, e1⟩
  | panicked ch =>
    obtain ⟨ch', m1, m2, m3, m4, m5⟩ := l1
    exact ⟨ρ', ch', w', (Steps.head s1 m2).trans (Steps.one (step_leave_panicked ⟨m3, m4, m5⟩)), m1, k1, e1⟩
theorem does_yield {rec : ARec} (hs : Sound P rec) (hg : Glob ρ) {ev : Operand → Option AV} (h : AtOp c ops i l k o) (hh : RelH P ρ H w) (hev : ∀ x a, ev x = some a → RelV ρ a (c.eval x)) {r : Nat} {args : List AV} (hx : execO P H ev o = some (.yield r args))
    {e : AEnd} {u : AUp} {H' : AHeap} (hc : yieldF rec r args H = some (e, u, H')) : match e with
      | .returned v => DoesV P ρ H w c cs v H'
      | .panicked ch => DoesP P ρ H w c cs ch H' := by
  have hr := execO_rel hh hev hx
  obtain ⟨loc, args', h0, h1, h2⟩ := hr
  unfold yieldF at hc
  split at hc
  case h_2 => cases hc
  rename_i lp hl
  split at hc
  case h_1 => cases hc
  rename_i t ht
  obtain ⟨loc', j1, j2, j3⟩ := hh.obj _ _ hl
  rw [h0] at j1
  cases j1
  simp only [RelO] at j3
  obtain ⟨r', j4, j5⟩ := j3
  have hb := bindTmps_rel j5.tmps h2 ht
  have hsz : args'.size = r'.params.size := by rw [j5.params]; simpa using hb.1
  rw [run_yield j4 hsz] at h1
  have s1 := mv_round (cs := cs) h (Or.inr (no_defer hx (fun d e => by cases e))) h1
  have st : St P ρ H w .no { fn := lp.fn, n := lp.n, tmps := t, todo := [.code lp.assign, .beginRound, .code lp.body], defers := [], mode := .run, round := some r }
      (Frame.round loc.b r'.fn ((r'.params.zip args').foldl (fun tmps (t, a) => tmps.setIfInBounds t a) r'.tmps) r'.assign r'.body .normal) (c :: cs) := by
    refine ⟨hh, hg, ⟨j5.fn, j5.has, ?_, ?_, ?_, rfl, rfl, loc, h0, rfl⟩, rfl⟩
    · intro _
      have q := hb.2
      simp only [Frame.round]
      rw [j5.params, ← Array.foldl_toList, Array.toList_zip]
      exact q
    · intro _; simp [Frame.round, RelItems, RelItem, j5.assign, j5.body]
    · simp [Frame.round, RelDefs]
  obtain ⟨ρ', w', e1, k1, _, b1⟩ := hs _ _ _ _ hc _ _ _ _ st
  have b2 := b1 (by simp [Frame.round]) c cs rfl
  cases e with
  | returned v =>
    obtain ⟨v', m1, m2⟩ := b2
    exact ⟨ρ', v', w', Steps.head s1 m2, m1, k1, e1⟩
  | panicked ch =>
    obtain ⟨ch', m1, m2⟩ := b2
    exact ⟨ρ', ch', w', Steps.head s1 m2, m1, k1, e1⟩
end
end Go.Am
set_option linter.unusedSectionVars false
namespace Go.Am
variable {P : Program} [Orc P] [OrcOk P] {ρ : Ren} {H : AHeap} {w : World}

theorem fin_rel {fr fr' : AFrame} {c : Frame} {ops : Array Oper} {o : Oper} {os : List Oper} {ka : List AItem} {i : Nat} {l : List Nat} {k : List Item} (hf : RelFr P ρ { fr with todo := .inRegion ops (o :: os) :: ka } c) (hm : fr.mode = .run)
    (ht : fr.todo = .inRegion ops os :: ka) (hc : c.todo = .inRegion ops (i :: l) :: k) (hi : ops[i]? = some o) (hl : l.map (ops[·]?) = os.map some) {a : AV} {v : Value} (hv : RelV ρ a v) (hp : fr.put o.dst a = some fr') :
    RelFr P ρ fr' (c.finish v) ∧ (c.finish v).fn = c.fn ∧ (c.finish v).kind = c.kind ∧ (c.finish v).roundOf = c.roundOf ∧ fr'.mode = .run ∧ fr'.todo = fr.todo := by
  have hT := hf.tmps (Dead.not hm)
  have h0 := hf.todo hm
  simp only [RelItems, RelItem] at h0
  obtain ⟨x, xs, e1, _, h3⟩ := h0
  rw [hc] at e1
  cases e1
  have hfin : c.finish v = { c with todo := .inRegion ops l :: k, tmps := (match o.dst with
                | some d => c.tmps.setIfInBounds d v
                | none => c.tmps) } := by
    unfold Frame.finish
    rw [hc]
    simp [hi]
    cases o.dst <;> rfl
  rw [hfin]
  unfold AFrame.put at hp
  cases hd : o.dst with
  | none =>
    rw [hd] at hp
    cases hp
    refine ⟨⟨hf.fn, hf.has, fun _ => hT, fun _ => ?_, hf.defers, hf.mode, hf.round⟩, rfl, rfl, rfl, hm, rfl⟩
    rw [ht]
    simp only [RelItems, RelItem]
    exact ⟨_, _, rfl, ⟨l, rfl, hl⟩, h3⟩
  | some d =>
    rw [hd] at hp
    obtain ⟨hb, hp⟩ := cond_some hp rfl
    cases hp
    refine ⟨⟨hf.fn, hf.has, fun _ => hT.put (Nat.le_of_ble_eq_true hb) (Or.inr hv), fun _ => ?_, hf.defers, hf.mode, hf.round⟩, rfl, rfl, rfl, hm, rfl⟩
    show RelItems ρ fr.todo _
    rw [ht]
    simp only [RelItems, RelItem]
    exact ⟨_, _, rfl, ⟨l, rfl, hl⟩, h3⟩

theorem raise_rel {fr : AFrame} {c : Frame} {ch : List (AV × Bool)} {l : List PanicEntry} {todo : List AItem} (hf : RelFr P ρ { fr with todo := todo } c) (hl : RelChain ρ ch l) :
    RelFr P ρ (fr.raise ch) (c.raise l) ∧ (c.raise l).fn = c.fn ∧ (c.raise l).kind = c.kind ∧ (c.raise l).roundOf = c.roundOf := by
  have hm := hf.mode
  unfold AFrame.raise Frame.raise
  cases hq : fr.mode with
  | run =>
    simp only [hq, RelMode] at hm
    rw [hm]
    exact ⟨⟨hf.fn, hf.has, (fun hd => hf.tmps (fun ⟨_, e⟩ => hd ⟨⟨_, rfl⟩, e⟩)), (fun e => by cases e), hf.defers, ⟨l, rfl, hl⟩, hf.round⟩, rfl, rfl, rfl⟩
  | returning =>
    simp only [hq, RelMode] at hm
    rw [hm]
    exact ⟨⟨hf.fn, hf.has, (fun hd => hf.tmps (fun ⟨_, e⟩ => hd ⟨⟨_, rfl⟩, e⟩)), (fun e => by cases e), hf.defers, ⟨l, rfl, hl⟩, hf.round⟩, rfl, rfl, rfl⟩
  | panicking old =>
    simp only [hq, RelMode] at hm
    obtain ⟨l', hm, hr⟩ := hm
    rw [hm]
    exact ⟨⟨hf.fn, hf.has, (fun hd => hf.tmps (fun ⟨_, e⟩ => hd ⟨⟨_, rfl⟩, e⟩)), (fun e => by cases e), hf.defers, ⟨l ++ l', rfl, hl.append hr⟩, hf.round⟩, rfl, rfl, rfl⟩

section
variable {up up' : AUp} {fr fr' : AFrame} {H' : AHeap} {c : Frame} {cs : List Frame} {ops : Array Oper} {o : Oper} {os : List Oper} {ka : List AItem} {i : Nat} {l : List Nat} {k : List Item} {a : AV} {ch : List (AV × Bool)}

theorem stand (st : St P ρ H w up { fr with todo := .inRegion ops (o :: os) :: ka } c cs) (hm : fr.mode = .run) :
    ∃ i l k, c.mode = .run ∧ c.todo = .inRegion ops (i :: l) :: k ∧ ops[i]? = some o ∧ l.map (ops[·]?) = os.map some ∧ RelItems ρ ka k := by
  have h0 := st.frame.todo hm
  simp only [RelItems, RelItem] at h0
  obtain ⟨x, xs, e1, ⟨li, rfl, h2⟩, h3⟩ := h0
  have h1 := st.frame.mode
  simp only [hm, RelMode] at h1
  cases li with
  | nil => cases h2
  | cons i l =>
    simp only [List.map_cons, List.cons.injEq] at h2
    exact ⟨i, l, xs, h1, e1, h2.1, h2.2, h3⟩

theorem DoesV.goes (hd : DoesV P ρ H w c cs a H') (st : St P ρ H w up { fr with todo := .inRegion ops (o :: os) :: ka } c cs) (hm : fr.mode = .run) (ht : fr.todo = .inRegion ops os :: ka) (hc : c.todo = .inRegion ops (i :: l) :: k) (hi : ops[i]? = some o)
    (hl : l.map (ops[·]?) = os.map some) (hp : fr.put o.dst a = some fr') : Goes P ρ H w c cs up fr' H' := by
  obtain ⟨ρ', v', w', s1, r1, h1, e1⟩ := hd
  obtain ⟨f1, f2, f3, f4, f5, f6⟩ := fin_rel (st.frame.mono e1.le) hm ht hc hi hl r1 hp
  exact ⟨ρ', w', c.finish v', cs, s1, e1, ⟨h1, st.glob.mono e1.le, f1, f3 ▸ st.up.mono e1.le⟩, SameUp.refl st.up, f2, f3, f4⟩
theorem DoesP.goes {todo : List AItem} (hd : DoesP P ρ H w c cs ch H') (st : St P ρ H w up { fr with todo := todo } c cs) : Goes P ρ H w c cs up (fr.raise ch) H' := by
  obtain ⟨ρ', l', w', s1, r1, h1, e1⟩ := hd
  obtain ⟨f1, f2, f3, f4⟩ := raise_rel (st.frame.mono e1.le) r1
  exact ⟨ρ', w', c.raise l', cs, s1, e1, ⟨h1, st.glob.mono e1.le, f1, f3 ▸ st.up.mono e1.le⟩, SameUp.refl st.up, f2, f3, f4⟩

theorem operA_goes {rec : ARec} (hs : Sound P rec) (h : operA P rec up fr H o = some (up', fr', H')) (st : St P ρ H w up { fr with todo := .inRegion ops (o :: os) :: ka } c cs) (hm : fr.mode = .run) (ht : fr.todo = .inRegion ops os :: ka)
    (hgd : guardOk ops fr.tmps o = true) (hw : wantedA ops fr.tmps o = true) : Goes P ρ H w c cs up' fr' H' := by
  obtain ⟨i, l, k, m1, m2, m3, m4, m5⟩ := stand st hm
  have hat : AtOp c ops i l k o := ⟨m1, m2, m3, by rw [wanted_eq (st.frame.tmps (Dead.not hm)) _ _ hgd]; exact hw⟩
  have hev := evA_rel (c := c) st.glob (st.frame.tmps (Dead.not hm))
  unfold operA at h
  split at h
  case h_1 => cases h
  rename_i out hx
  split at h
  · rename_i v H1
    split at h
    case h_2 => cases h
    rename_i fr1 hp
    cases h
    exact (does_value hat st.heap hev hx).goes st hm ht m2 m3 m4 hp
  · rename_i H1
    split at h
    case h_2 => cases h
    rename_i fr1 hp
    cases h
    exact (does_skip hat st.heap hev hx).goes st hm ht m2 m3 m4 hp
  · rename_i f args
    split at h
    · rename_i v u H1 hc
      split at h
      case h_2 => cases h
      rename_i fr1 hp
      cases h
      have k := does_enter (cs := cs) hs st.glob hat st.heap hev hx hc
      exact DoesV.goes k st hm ht m2 m3 m4 hp
    · rename_i ch u H1 hc
      cases h
      have k := does_enter (cs := cs) hs st.glob hat st.heap hev hx hc
      exact DoesP.goes k st
    · cases h
  · rename_i r args
    split at h
    · rename_i v u H1 hc
      split at h
      case h_2 => cases h
      rename_i fr1 hp
      cases h
      have k := does_yield (cs := cs) hs st.glob hat st.heap hev hx hc
      exact DoesV.goes k st hm ht m2 m3 m4 hp
    · rename_i ch u H1 hc
      cases h
      have k := does_yield (cs := cs) hs st.glob hat st.heap hev hx hc
      exact DoesP.goes k st
    · cases h
  · rename_i d
    split at h
    · cases h
    · rename_i hround
      split at h
      case h_2 => cases h
      rename_i fr1 hp
      cases h
      have hr := execO_rel st.heap hev hx
      obtain ⟨dc, r1, r2⟩ := hr
      have hr0 := st.frame.round
      simp only [hround] at hr0
      have s1 := mv_defer (cs := cs) hat hr0 r1
      obtain ⟨f1, f2, f3, f4, f5, f6⟩ := fin_rel st.frame hm ht m2 m3 m4 (relV_undef ρ) hp
      have e : (({ c with defers := dc :: c.defers } : Frame).finish Go.undef) = { c.finish Go.undef with defers := dc :: (c.finish Go.undef).defers } := by
        unfold Frame.finish; rw [m2]
      have s2 : step P (lone c cs w) = .next (lone { c.finish Go.undef with defers := dc :: (c.finish Go.undef).defers } cs w) := by rw [← e]; exact s1
      refine ⟨ρ, w, _, cs, Steps.one s2, Ext.refl _ _ _, ⟨st.heap, st.glob, ⟨f1.fn, f1.has, fun _ => f1.tmps (Dead.not f5), f1.todo, ?_, f1.mode, f1.round⟩, ?_⟩, SameUp.refl st.up, f2, f3, f4⟩
      · simp only [RelDefs]
        exact ⟨dc, _, rfl, r2, f1.defers⟩
      · exact f3 ▸ st.up
  · split at h
    · cases h
    · rename_i hround
      split at h
      rename_i v u hrec
      split at h
      case h_2 => cases h
      rename_i fr1 hp
      cases h
      have hr := execO_rel st.heap hev hx
      have hr' : (execOp c.eval o).run P w = .ok .recover w := hr
      have hr0 := st.frame.round
      simp only [hround] at hr0
      have s1 := mv_recover (cs := cs) hat hr0 hr'
      have plain : tryRecover c cs = none → recoverA up = (.nilIface, up) → Goes P ρ H w c cs up' fr' H := by
        intro h1 h2
        rw [h2] at hrec
        cases hrec
        rw [h1] at s1
        obtain ⟨f1, f2, f3, f4, f5, f6⟩ := fin_rel st.frame hm ht m2 m3 m4 (a := .nilIface) (v := .nilIface) (by simp only [RelV]) hp
        exact ⟨ρ, w, _, cs, Steps.one s1, Ext.refl _ _ _, ⟨st.heap, st.glob, f1, f3 ▸ st.up⟩, SameUp.refl st.up, f2, f3, f4⟩
      have hu := st.up
      cases up with
      | no =>
        simp only [RelUp] at hu
        exact plain (by unfold tryRecover; rw [hu]) rfl
      | deferred m =>
        obtain ⟨hk, p, rest, hcs, hmode⟩ := hu
        cases m with
        | run =>
          simp only [RelMode] at hmode
          exact plain (by unfold tryRecover; rw [hk, hcs]; simp only [hmode]) rfl
        | returning =>
          simp only [RelMode] at hmode
          exact plain (by unfold tryRecover; rw [hk, hcs]; simp only [hmode]) rfl
        | panicking chn =>
          simp only [RelMode] at hmode
          obtain ⟨lp, hmode, hchain⟩ := hmode
          cases chn with
          | nil =>
            simp only [RelChain] at hchain
            subst hchain
            exact plain (by unfold tryRecover; rw [hk, hcs]; simp only [hmode]) rfl
          | cons e older =>
            obtain ⟨ev0, b⟩ := e
            simp only [RelChain] at hchain
            obtain ⟨v1, vs, rfl, q1, q2⟩ := hchain
            cases b with
            | true => exact plain (by unfold tryRecover; rw [hk, hcs]; simp only [hmode]) rfl
            | false =>
              cases hrec
              have ht1 : tryRecover c cs = some (v1, { p with mode := .panicking ({ v := v1, recovered := true } :: vs) } :: rest) := by
                unfold tryRecover; rw [hk, hcs]; simp only [hmode]
              rw [ht1] at s1
              obtain ⟨f1, f2, f3, f4, f5, f6⟩ := fin_rel st.frame hm ht m2 m3 m4 q1 hp
              refine ⟨ρ, w, _, _, Steps.one s1, Ext.refl _ _ _, ⟨st.heap, st.glob, f1, ?_⟩, ?_, f2, f3, f4⟩
              · rw [f3]
                refine ⟨hk, _, rest, rfl, ?_⟩
                simp only [RelMode, RelChain]
                exact ⟨_, rfl, v1, vs, rfl, q1, q2⟩
              · rw [hk, hcs]
                exact ⟨p, rest, _, rfl, rfl⟩
  · rename_i v
    cases h
    exact (does_panic hat st.heap hev hx).goes st

theorem skipOp_goes (st : St P ρ H w up { fr with todo := .inRegion ops (o :: os) :: ka } c cs) (hm : fr.mode = .run) (ht : fr.todo = .inRegion ops os :: ka)
    (hgd : guardOk ops fr.tmps o = true) (hw : wantedA ops fr.tmps o = false) (hp : fr.put o.dst .undef = some fr') : Goes P ρ H w c cs up fr' H := by
  obtain ⟨i, l, k, m1, m2, m3, m4, m5⟩ := stand st hm
  have s1 := mv_skipOp (P := P) (cs := cs) (w := w) m1 m2 (by rw [m3]; simp only [Option.map_some, Option.getD_some]; rw [wanted_eq (st.frame.tmps (Dead.not hm)) _ _ hgd]; exact hw)
  obtain ⟨f1, f2, f3, f4, f5, f6⟩ := fin_rel st.frame hm ht m2 m3 m4 (relV_undef ρ) hp
  exact ⟨ρ, w, _, cs, Steps.one s1, Ext.refl _ _ _, ⟨st.heap, st.glob, f1, f3 ▸ st.up⟩, SameUp.refl st.up, f2, f3, f4⟩
end

theorem exitTo_some {id : Nat} : ∀ {k : List AItem} {ks : List Item} {k' : List AItem}, RelItems ρ k ks → exitToA id k = some k' → ∃ ks', exitTo id ks = some ks' ∧ RelItems ρ k' ks'
  | [], ks, k', h, he => by simp [exitToA] at he
  | a :: k, ks, k', h, he => by
    simp only [RelItems] at h
    obtain ⟨x, xs, rfl, h1, h2⟩ := h
    cases a <;> simp only [exitToA] at he
    case inBlock j =>
      simp only [RelItem] at h1
      subst h1
      cases hj : Nat.beq j id with
      | true =>
        rw [hj, cond_true] at he; cases he
        refine ⟨xs, ?_, h2⟩
        simp only [exitTo]
        rw [if_pos (by simpa using Nat.eq_of_beq_eq_true hj)]
      | false =>
        rw [hj, cond_false] at he
        obtain ⟨ks', q1, q2⟩ := exitTo_some h2 he
        refine ⟨ks', ?_, q2⟩
        simp only [exitTo]
        rw [if_neg (by simpa using Nat.ne_of_beq_eq_false hj)]
        exact q1
    all_goals
      obtain ⟨ks', q1, q2⟩ := exitTo_some h2 he
      simp only [RelItem] at h1
      first | subst h1 | (obtain ⟨_, rfl, _⟩ := h1) | (obtain ⟨_, _, rfl⟩ := h1)
      exact ⟨ks', by simpa only [exitTo] using q1, q2⟩
theorem exitTo_none {id : Nat} : ∀ {k : List AItem} {ks : List Item}, RelItems ρ k ks → exitToA id k = none → exitTo id ks = none
  | [], ks, h, he => by simp only [RelItems] at h; subst h; rfl
  | a :: k, ks, h, he => by
    simp only [RelItems] at h
    obtain ⟨x, xs, rfl, h1, h2⟩ := h
    cases a <;> simp only [exitToA] at he
    case inBlock j =>
      simp only [RelItem] at h1
      subst h1
      cases hj : Nat.beq j id with
      | true => rw [hj, cond_true] at he; cases he
      | false =>
        rw [hj, cond_false] at he
        have q1 := exitTo_none h2 he
        simp only [exitTo]
        rw [if_neg (by simpa using Nat.ne_of_beq_eq_false hj)]
        exact q1
    all_goals
      have q1 := exitTo_none h2 he
      simp only [RelItem] at h1
      first | subst h1 | (obtain ⟨_, rfl, _⟩ := h1) | (obtain ⟨_, _, rfl⟩ := h1)
      simpa only [exitTo] using q1
end Go.Am
