/-
  Part 9 of the proof that winch/winchlaw25.ChangeBodies returns true for every two bodies of small bulk: lemmas.
  Conditions: none beyond each theorem's own premises.
  What lies here:
  Regions that draw, second part: what the masks say of the order in which the operations may run.
  Regions that draw, third part: the states of the small evaluator's run, by number.
  Regions that draw, fourth part: what one step of the small evaluator's run does, by kind.
  Regions that draw, fifth part: an operation sees its own operands only; whether it is wanted hangs on its guard's temporary only.
  Regions that draw, sixth part: the windows that the plan gives to the operations.
  Regions that draw, before all: operations that change no memory leave it as it is.
-/
import Derived.Test.YtclhjedldbkgpaaGreatDoorBodies8
set_option linter.unusedVariables false
set_option linter.unusedSimpArgs false
set_option linter.unusedSectionVars false
namespace Go.Am

theorem bit_eq (m i : Nat) : bit m i = m.testBit i := by
  unfold bit
  rw [Nat.testBit_eq_decide_div_mod_eq]
  have h : Nat.land (Nat.shiftRight m i) 1 = m / 2 ^ i % 2 := by
    have h1 : Nat.shiftRight m i = m / 2 ^ i := Nat.shiftRight_eq_div_pow m i
    rw [h1]
    exact Nat.and_one_is_mod _
  rw [h]
  by_cases hq : m / 2 ^ i % 2 = 1
  · rw [hq]; rfl
  · simp only [hq, decide_false]
    cases hb : Nat.beq (m / 2 ^ i % 2) 1 with
    | false => rfl
    | true => exact absurd (Nat.eq_of_beq_eq_true hb) hq
theorem bit_or (a b i : Nat) : bit (Nat.lor a b) i = (bit a i || bit b i) := by
  rw [bit_eq, bit_eq, bit_eq]
  exact Nat.testBit_or a b i
theorem bit_pow (n i : Nat) : bit (Nat.pow 2 n) i = decide (n = i) := by
  rw [bit_eq]
  exact Nat.testBit_two_pow
theorem bit_zero (i : Nat) : bit 0 i = false := by rw [bit_eq]; simp

theorem predMask_spec {acc : List Nat} : ∀ {es : List Edge} {m : Nat}, predMask acc es = some m →
    (∀ i, bit m i = true → ∃ e ∈ es, Region.binds .any e = true ∧ (e.on = i ∨ ∃ b, acc[e.on]? = some b ∧ bit b i = true)) ∧
    (∀ e ∈ es, Region.binds .any e = true → bit m e.on = true ∧ ∃ b, acc[e.on]? = some b ∧ ∀ i, bit b i = true → bit m i = true)
  | [], m, h => by
    unfold predMask at h
    cases h
    exact ⟨fun i hi => (by rw [bit_zero] at hi; cases hi), fun e he => (by cases he)⟩
  | e :: es, m, h => by
    unfold predMask at h
    split at h
    case h_1 => cases h
    rename_i m0 h0
    obtain ⟨p1, p2⟩ := predMask_spec h0
    cases hb : Region.binds .any e with
    | false =>
      rw [hb, cond_false] at h
      cases h
      refine ⟨fun i hi => ?_, fun e' he' hbe => ?_⟩
      · obtain ⟨e', q1, q2⟩ := p1 i hi; exact ⟨e', List.mem_cons_of_mem _ q1, q2⟩
      · rcases List.mem_cons.1 he' with rfl | he'
        · rw [hb] at hbe; cases hbe
        · exact p2 e' he' hbe
    | true =>
      rw [hb, cond_true] at h
      split at h
      case h_1 => cases h
      rename_i b hbb
      cases h
      refine ⟨fun i hi => ?_, fun e' he' hbe => ?_⟩
      · rw [bit_or, bit_or, bit_pow, Bool.or_eq_true, Bool.or_eq_true] at hi
        rcases hi with (hi | hi) | hi
        · exact ⟨e, List.mem_cons_self, hb, Or.inl (of_decide_eq_true hi)⟩
        · exact ⟨e, List.mem_cons_self, hb, Or.inr ⟨b, hbb, hi⟩⟩
        · obtain ⟨e', q1, q2⟩ := p1 i hi; exact ⟨e', List.mem_cons_of_mem _ q1, q2⟩
      · rcases List.mem_cons.1 he' with rfl | he'
        · refine ⟨by rw [bit_or, bit_or, bit_pow]; simp, b, hbb, fun i hi => by rw [bit_or, bit_or, hi]; simp⟩
        · obtain ⟨q1, b', q2, q3⟩ := p2 e' he' hbe
          exact ⟨by rw [bit_or, q1]; simp, b', q2, fun i hi => by rw [bit_or, q3 i hi]; simp⟩

theorem befores_spec : ∀ {os : List Oper} {acc ms : List Nat}, befores acc os = some ms → ms.length = acc.length + os.length ∧ (∀ i, i < acc.length → ms[i]? = acc[i]?) ∧
    ∀ j o, os[j]? = some o → ∃ m, ms[acc.length + j]? = some m ∧ predMask (ms.take (acc.length + j)) o.after.toList = some m
  | [], acc, ms, h => by
    unfold befores at h
    cases h
    exact ⟨rfl, fun _ _ => rfl, fun j o h => by simp at h⟩
  | o :: os, acc, ms, h => by
    unfold befores at h
    split at h
    case h_1 => cases h
    rename_i m hm
    obtain ⟨h1, h2, h3⟩ := befores_spec h
    simp only [List.length_append, List.length_cons, List.length_nil] at h1 h2 h3
    refine ⟨by rw [h1, List.length_cons]; omega, fun i hi => ?_, fun j o' ho => ?_⟩
    · rw [h2 i (by omega), List.getElem?_append_left hi]
    · cases j with
      | zero =>
        simp only [List.getElem?_cons_zero, Option.some.injEq] at ho
        subst ho
        refine ⟨m, ?_, ?_⟩
        · rw [h2 _ (by omega)]; simp
        · have : ms.take (acc.length + 0) = acc := by
            apply List.ext_getElem?
            intro i
            by_cases hi : i < acc.length
            · rw [List.getElem?_take_of_lt (by omega), h2 i (by omega), List.getElem?_append_left hi]
            · rw [List.getElem?_eq_none (by simp; omega), List.getElem?_eq_none (by omega)]
          rw [this]; exact hm
      | succ j =>
        simp only [List.getElem?_cons_succ] at ho
        obtain ⟨m', q1, q2⟩ := h3 j o' ho
        have e : acc.length + (0 + 1) + j = acc.length + (j + 1) := by omega
        rw [e] at q1 q2
        exact ⟨m', q1, q2⟩

/-- A set of operations that is closed under what binds. -/
def Closed (ops : Array Oper) (C : Nat → Prop) : Prop := ∀ j, C j → ∃ o, ops[j]? = some o ∧ ∀ e ∈ o.after.toList, Region.binds .any e = true → C e.on
/-- What a mask names is done before. -/
theorem mask_closed {ops : Array Oper} {ms : List Nat} (hb : befores [] ops.toList = some ms) {C : Nat → Prop} (hc : Closed ops C) : ∀ {j m : Nat} {o : Oper}, ops[j]? = some o → ms[j]? = some m →
    (∀ e ∈ o.after.toList, Region.binds .any e = true → C e.on) → ∀ i, bit m i = true → C i ∧ i < j := by
  obtain ⟨h1, _, h3⟩ := befores_spec hb
  intro j
  induction j using Nat.strongRecOn with
  | _ j ih =>
    intro m o ho hm hall i hi
    obtain ⟨m', q1, q2⟩ := h3 j o (by simpa using ho)
    simp only [List.length_nil, Nat.zero_add] at q1 q2
    rw [hm] at q1
    cases q1
    obtain ⟨e, e1, e2, e3⟩ := (predMask_spec q2).1 i hi
    obtain ⟨_, b', f1, _⟩ := (predMask_spec q2).2 e e1 e2
    have hlt : e.on < j := by
      have := (List.getElem?_eq_some_iff.1 f1).1
      simp at this
      omega
    have hCe := hall e e1 e2
    rcases e3 with rfl | ⟨b, g1, g2⟩
    · exact ⟨hCe, hlt⟩
    · obtain ⟨o', k1, k2⟩ := hc _ hCe
      rw [List.getElem?_take_of_lt hlt] at g1
      obtain ⟨r1, r2⟩ := ih e.on hlt k1 g1 k2 i g2
      exact ⟨r1, by omega⟩
end Go.Am
set_option linter.unusedSectionVars false
namespace Go.Am
variable {P : Program} [Orc P] [OrcOk P]

/-- The run's states: from a number on, all its steps; how it ended. -/
inductive Drawn (P : Program) [Orc P] [OrcOk P] (rec : ARec) (ops : Array Oper) : List RI → DS → List DS → Sum DS (AFrame × AHeap) → Prop
  | done (S) : Drawn P rec ops [] S [S] (.inl S)
  | raised (r rest S fr H) (h : drawn1 P rec ops rest r S = some (.inr (fr, H))) : Drawn P rec ops (r :: rest) S [S] (.inr (fr, H))
  | step (r rest S S' l e) (h : drawn1 P rec ops rest r S = some (.inl S')) (k : Drawn P rec ops rest S' l e) : Drawn P rec ops (r :: rest) S (S :: l) e

theorem drawn_of {rec : ARec} {up up' : AUp} {ops : Array Oper} {fr' : AFrame} {H' : AHeap} : ∀ {pl : List RI} {S : DS}, drawnA P rec up ops pl S = some (up', fr', H') →
    up' = up ∧ ∃ l e, Drawn P rec ops pl S l e ∧ (match e with
      | .inl S' => fr' = S'.fr ∧ H' = S'.H
      | .inr (fr, H) => fr' = fr ∧ H' = H)
  | [], S, h => by
    unfold drawnA at h
    cases h
    exact ⟨rfl, _, _, .done S, rfl, rfl⟩
  | r :: rest, S, h => by
    unfold drawnA at h
    split at h
    · cases h
    · rename_i fr H h1
      cases h
      exact ⟨rfl, _, _, .raised r rest S _ _ h1, rfl, rfl⟩
    · rename_i S' h1
      obtain ⟨q1, l, e, q2, q3⟩ := drawn_of h
      exact ⟨q1, _, e, .step r rest S S' l e h1 q2, q3⟩

/-- Two states behind one another. -/
theorem Drawn.at {rec : ARec} {ops : Array Oper} : ∀ {pl : List RI} {S : DS} {l : List DS} {e : Sum DS (AFrame × AHeap)}, Drawn P rec ops pl S l e →
    l[0]? = some S ∧ l.length ≤ pl.length + 1 ∧
    (∀ j S1 S2, l[j]? = some S1 → l[j + 1]? = some S2 → ∃ r, pl[j]? = some r ∧ drawn1 P rec ops (pl.drop (j + 1)) r S1 = some (.inl S2)) ∧
    (match e with
      | .inl S' => l.length = pl.length + 1 ∧ l[pl.length]? = some S'
      | .inr x => ∃ j r S1, j + 1 = l.length ∧ l[j]? = some S1 ∧ pl[j]? = some r ∧ drawn1 P rec ops (pl.drop (j + 1)) r S1 = some (.inr x)) := by
  intro pl S l e h
  induction h with
  | done S => exact ⟨rfl, Nat.le_refl _, fun j S1 S2 _ h2 => by simp at h2, rfl, rfl⟩
  | raised r rest S fr H h => exact ⟨rfl, by simp, fun j S1 S2 _ h2 => by simp at h2, 0, r, S, rfl, rfl, rfl, h⟩
  | step r rest S S' l e h k ih =>
    obtain ⟨i1, i2, i3, i4⟩ := ih
    refine ⟨rfl, by simp only [List.length_cons]; omega, fun j S1 S2 h1 h2 => ?_, ?_⟩
    · cases j with
      | zero =>
        simp only [List.getElem?_cons_zero, Option.some.injEq] at h1
        simp only [Nat.zero_add, List.getElem?_cons_succ] at h2
        rw [i1] at h2
        cases h1; cases h2
        exact ⟨r, rfl, by simpa using h⟩
      | succ j =>
        simp only [List.getElem?_cons_succ] at h1 h2
        obtain ⟨r', q1, q2⟩ := i3 j S1 S2 h1 h2
        exact ⟨r', by simpa using q1, by simpa using q2⟩
    · cases e with
      | inl S'' => exact ⟨by simp only [List.length_cons]; rw [i4.1], by simpa using i4.2⟩
      | inr x =>
        obtain ⟨j, r', S1, q1, q2, q3, q4⟩ := i4
        exact ⟨j + 1, r', S1, by simp only [List.length_cons]; omega, by simpa using q2, by simpa using q3, by simpa using q4⟩
end Go.Am
set_option linter.unusedSectionVars false
namespace Go.Am
variable {P : Program} [Orc P] [OrcOk P] {ρ : Ren} {rec : ARec}

/-- An act that gives a value; one that raises. -/
inductive ActV (P : Program) [Orc P] [OrcOk P] (rec : ARec) (H : AHeap) (ev : Operand → Option AV) (o : Oper) : AV → AHeap → Prop
  | value (v H') (h : execO P H ev o = some (.value v H')) : ActV P rec H ev o v H'
  | skip (H') (h : execO P H ev o = some (.skip H')) : ActV P rec H ev o .undef H'
  | enter (f args v u H') (h : execO P H ev o = some (.enter f args)) (hc : callO P rec f args H = some (.returned v, u, H')) : ActV P rec H ev o v H'
  | yield (l args v u H') (h : execO P H ev o = some (.yield l args)) (hc : yieldF rec l args H = some (.returned v, u, H')) : ActV P rec H ev o v H'
inductive ActP (P : Program) [Orc P] [OrcOk P] (rec : ARec) (H : AHeap) (ev : Operand → Option AV) (o : Oper) : List (AV × Bool) → AHeap → Prop
  | panic (v) (h : execO P H ev o = some (.panic v)) : ActP P rec H ev o [(v, false)] H
  | enter (f args ch u H') (h : execO P H ev o = some (.enter f args)) (hc : callO P rec f args H = some (.panicked ch, u, H')) : ActP P rec H ev o ch H'
  | yield (l args ch u H') (h : execO P H ev o = some (.yield l args)) (hc : yieldF rec l args H = some (.panicked ch, u, H')) : ActP P rec H ev o ch H'

theorem ActV.does (hs : Sound P rec) {H H' : AHeap} {w : World} {ev : Operand → Option AV} {o : Oper} {v : AV} (ha : ActV P rec H ev o v H') {c : Frame} {cs : List Frame} {k : List Item} {ops : Array Oper} {i : Nat} {l : List Nat}
    (hg : Glob ρ) (h : AtOp c ops i l k o) (hh : RelH P ρ H w) (hev : ∀ x a, ev x = some a → RelV ρ a (c.eval x)) : DoesV P ρ H w c cs v H' := by
  cases ha with
  | value _ _ hx => exact does_value h hh hev hx
  | skip _ hx => exact does_skip h hh hev hx
  | enter f args _ u _ hx hc => exact does_enter (cs := cs) hs hg h hh hev hx hc
  | yield f args _ u _ hx hc => exact does_yield (cs := cs) hs hg h hh hev hx hc
theorem ActP.does (hs : Sound P rec) {H H' : AHeap} {w : World} {ev : Operand → Option AV} {o : Oper} {ch : List (AV × Bool)} (ha : ActP P rec H ev o ch H') {c : Frame} {cs : List Frame} {k : List Item} {ops : Array Oper} {i : Nat} {l : List Nat}
    (hg : Glob ρ) (h : AtOp c ops i l k o) (hh : RelH P ρ H w) (hev : ∀ x a, ev x = some a → RelV ρ a (c.eval x)) : DoesP P ρ H w c cs ch H' := by
  cases ha with
  | panic _ hx => exact does_panic h hh hev hx
  | enter f args _ u _ hx hc => exact does_enter (cs := cs) hs hg h hh hev hx hc
  | yield f args _ u _ hx hc => exact does_yield (cs := cs) hs hg h hh hev hx hc

/-- Behind an act: the next stage. -/
structure Acted (P : Program) [Orc P] [OrcOk P] (S1 S2 : DS) (H' : AHeap) : Prop where
  stage : S2.stage = S1.stage + 1
  base : S2.base = H'
  heap : S2.H = H'
  snaps : S2.snaps = S1.base :: S1.snaps
  pend : S2.pend = S1.pend
  held : heldNow P H' (S1.stage + 1) S1.pend = true
theorem acted_spec {S S2 : DS} {o : Oper} {v : AV} {H' : AHeap} (h : S.acted P o v H' = some (.inl S2)) : S.fr.put o.dst v = some S2.fr ∧ Acted P S S2 H' := by
  unfold DS.acted at h
  split at h
  case h_2 => cases h
  rename_i fr' hp
  obtain ⟨hb, h⟩ := cond_some h rfl
  cases h
  exact ⟨hp, rfl, rfl, rfl, rfl, rfl, hb⟩
theorem acted_not {S : DS} {o : Oper} {v : AV} {H' : AHeap} {x : AFrame × AHeap} : S.acted P o v H' ≠ some (.inr x) := by
  unfold DS.acted
  intro h
  split at h
  · obtain ⟨hb, h⟩ := cond_some h rfl; cases h
  · cases h
theorem raised_spec {S : DS} {rest : List RI} {ch : List (AV × Bool)} {H' : AHeap} {x : Sum DS (AFrame × AHeap)} (h : S.raised rest ch H' = some x) : S.fr.defers = [] ∧ allLater S.stage rest = true ∧ x = .inr (S.fr.raise ch, H') := by
  unfold DS.raised at h
  split at h
  · rename_i hd
    obtain ⟨hb, h⟩ := cond_some h rfl
    cases h
    exact ⟨hd, hb, rfl⟩
  · cases h

/-- What a step does. -/
inductive Did (P : Program) [Orc P] [OrcOk P] (rec : ARec) (ops : Array Oper) (r : RI) (S1 S2 : DS) (v : AV) : Prop
  | idleAct (hw : wantedA ops S1.fr.tmps r.o = false) (hv : v = .undef) (hc : isActs r.cls = true) (ha : Acted P S1 S2 S1.H)
  | idle (hw : wantedA ops S1.fr.tmps r.o = false) (hv : v = .undef) (hc : isActs r.cls = false) (h2 : S2 = { S1 with fr := S2.fr })
  | pure (hw : wantedA ops S1.fr.tmps r.o = true) (hc : r.cls = .pure) (H') (hx : execO P S1.H (evR r.o S1.fr.tmps) r.o = some (.value v H')) (h2 : S2 = { S1 with fr := S2.fr })
  | reads (hw : wantedA ops S1.fr.tmps r.o = true) (hc : r.cls = .reads) (H') (hx : execO P S1.base (evR r.o S1.fr.tmps) r.o = some (.value v H')) (hh : heldIn P r.o S1.fr.tmps v (S1.stage - r.lo) S1.snaps = true)
      (h2 : S2 = { S1 with fr := S2.fr, pend := ⟨r.o, S1.fr.tmps, v, r.hi⟩ :: S1.pend })
  | makes (hw : wantedA ops S1.fr.tmps r.o = true) (hc : r.cls = .makes) (H') (hx : execO P S1.H (evR r.o S1.fr.tmps) r.o = some (.value v H')) (h2 : S2 = { S1 with fr := S2.fr, H := H' })
  | fills (hw : wantedA ops S1.fr.tmps r.o = true) (hc : r.cls = .fills) (hn : fillsNew r.o S1.fr.tmps S1.base.next = true) (hv : v = .undef) (H') (hx : execO P S1.H (evR r.o S1.fr.tmps) r.o = some (.skip H')) (h2 : S2 = { S1 with fr := S2.fr, H := H' })
  | acts (hw : wantedA ops S1.fr.tmps r.o = true) (hc : r.cls = .acts) (H') (hx : ActV P rec S1.H (evR r.o S1.fr.tmps) r.o v H') (ha : Acted P S1 S2 H')

theorem drawn1Did {ops : Array Oper} {rest : List RI} {r : RI} {S1 S2 : DS} (h : drawn1 P rec ops rest r S1 = some (.inl S2)) : guardOk ops S1.fr.tmps r.o = true ∧ ∃ v, S1.fr.put r.o.dst v = some S2.fr ∧ Did P rec ops r S1 S2 v := by
  unfold drawn1 at h
  obtain ⟨hgd, h⟩ := cond_some h rfl
  refine ⟨hgd, ?_⟩
  cases hw : wantedA ops S1.fr.tmps r.o with
  | false =>
    rw [hw, cond_false] at h
    cases hc : isActs r.cls with
    | true =>
      rw [hc, cond_true] at h
      obtain ⟨h1, h2⟩ := acted_spec h
      exact ⟨_, h1, .idleAct hw rfl hc h2⟩
    | false =>
      rw [hc, cond_false] at h
      split at h
      case h_2 => cases h
      rename_i fr' hp
      cases h
      exact ⟨_, hp, .idle hw rfl hc rfl⟩
  | true =>
    rw [hw, cond_true] at h
    split at h
    · rename_i hc
      split at h
      case h_2 => cases h
      rename_i v H' hx
      split at h
      case h_2 => cases h
      rename_i fr' hp
      cases h
      exact ⟨_, hp, .pure hw hc _ hx rfl⟩
    · rename_i hc
      split at h
      case h_2 => cases h
      rename_i v H' hx
      split at h
      case h_2 => cases h
      rename_i fr' hp
      obtain ⟨hb, h⟩ := cond_some h rfl
      cases h
      exact ⟨_, hp, .reads hw hc _ hx hb rfl⟩
    · rename_i hc
      split at h
      case h_2 => cases h
      rename_i v H' hx
      split at h
      case h_2 => cases h
      rename_i fr' hp
      cases h
      exact ⟨_, hp, .makes hw hc _ hx rfl⟩
    · rename_i hc
      obtain ⟨hb, h⟩ := cond_some h rfl
      split at h
      case h_2 => cases h
      rename_i H' hx
      split at h
      case h_2 => cases h
      rename_i fr' hp
      cases h
      exact ⟨_, hp, .fills hw hc hb rfl _ hx rfl⟩
    · rename_i hc
      split at h
      · obtain ⟨_, _, h3⟩ := raised_spec h; cases h3
      · rename_i v H' hx
        obtain ⟨h1, h2⟩ := acted_spec h
        exact ⟨_, h1, .acts hw hc _ (.value _ _ hx) h2⟩
      · rename_i H' hx
        obtain ⟨h1, h2⟩ := acted_spec h
        exact ⟨_, h1, .acts hw hc _ (.skip _ hx) h2⟩
      · rename_i f args hx
        split at h
        · rename_i v u H' hcall
          obtain ⟨h1, h2⟩ := acted_spec h
          exact ⟨_, h1, .acts hw hc _ (.enter _ _ _ _ _ hx hcall) h2⟩
        · obtain ⟨_, _, h3⟩ := raised_spec h; cases h3
        · cases h
      · rename_i f args hx
        split at h
        · rename_i v u H' hcall
          obtain ⟨h1, h2⟩ := acted_spec h
          exact ⟨_, h1, .acts hw hc _ (.yield _ _ _ _ _ hx hcall) h2⟩
        · obtain ⟨_, _, h3⟩ := raised_spec h; cases h3
        · cases h
      · cases h
theorem drawn1Raised {ops : Array Oper} {rest : List RI} {r : RI} {S1 : DS} {x : AFrame × AHeap} (h : drawn1 P rec ops rest r S1 = some (.inr x)) :
    guardOk ops S1.fr.tmps r.o = true ∧ ∃ ch H', wantedA ops S1.fr.tmps r.o = true ∧ r.cls = .acts ∧ ActP P rec S1.H (evR r.o S1.fr.tmps) r.o ch H' ∧ S1.fr.defers = [] ∧ allLater S1.stage rest = true ∧ x = (S1.fr.raise ch, H') := by
  unfold drawn1 at h
  obtain ⟨hgd, h⟩ := cond_some h rfl
  refine ⟨hgd, ?_⟩
  cases hw : wantedA ops S1.fr.tmps r.o with
  | false =>
    rw [hw, cond_false] at h
    cases hc : isActs r.cls with
    | true => rw [hc, cond_true] at h; exact absurd h acted_not
    | false =>
      rw [hc, cond_false] at h
      split at h <;> cases h
  | true =>
    rw [hw, cond_true] at h
    split at h
    · (repeat' split at h) <;> cases h
    · split at h
      case h_2 => cases h
      split at h
      case h_2 => cases h
      obtain ⟨hb, h⟩ := cond_some h rfl
      cases h
    · (repeat' split at h) <;> cases h
    · obtain ⟨hb, h⟩ := cond_some h rfl
      (repeat' split at h) <;> cases h
    · rename_i hc
      split at h
      · rename_i v hx
        obtain ⟨q1, q2, q3⟩ := raised_spec h
        cases q3
        exact ⟨_, _, rfl, hc, .panic _ hx, q1, q2, rfl⟩
      · exact absurd h acted_not
      · exact absurd h acted_not
      · rename_i f args hx
        split at h
        · exact absurd h acted_not
        · rename_i ch u H' hcall
          obtain ⟨q1, q2, q3⟩ := raised_spec h
          cases q3
          exact ⟨_, _, rfl, hc, .enter _ _ _ _ _ hx hcall, q1, q2, rfl⟩
        · cases h
      · rename_i f args hx
        split at h
        · exact absurd h acted_not
        · rename_i ch u H' hcall
          obtain ⟨q1, q2, q3⟩ := raised_spec h
          cases q3
          exact ⟨_, _, rfl, hc, .yield _ _ _ _ _ hx hcall, q1, q2, rfl⟩
        · cases h
      · cases h
end Go.Am
set_option linter.unusedSectionVars false
namespace Go.Am
variable {P : Program} [Orc P] [OrcOk P] {ρ : Ren}

theorem memT_iff {d : Tmp} : ∀ {l : List Tmp}, memT d l = true ↔ d ∈ l
  | [] => by simp [memT]
  | e :: l => by
    simp only [memT, Bool.or_eq_true, List.mem_cons, memT_iff (l := l)]
    constructor
    · rintro (h | h)
      · exact Or.inl (Nat.eq_of_beq_eq_true h).symm
      · exact Or.inr h
    · rintro (rfl | h)
      · exact Or.inl (Nat.beq_refl _)
      · exact Or.inr h

/-- A temporary's value, there and here. -/
def At (ρ : Ren) (t : Tree AV) (tmps : Array Value) (d : Tmp) : Prop := RelJ ρ (tmpOf t d) (tmps.getD d Go.undef)

theorem evR_rel (hg : Glob ρ) {o : Oper} {t : Tree AV} {c : Frame} (ht : ∀ d ∈ tmpsIn o.op.operands.toList, At ρ t c.tmps d) : ∀ x a, evR o t x = some a → RelV ρ a (c.eval x) := by
  intro x a h
  cases x with
  | tmp i =>
    simp only [evR] at h
    obtain ⟨hm, h⟩ := cond_some h rfl
    exact (ht i (memT_iff.1 hm)).some h
  | const v => exact ofConst_rel h
  | global g =>
    simp only [evR] at h
    obtain ⟨hb, h⟩ := cond_some h rfl
    cases h
    obtain ⟨l, h1, h2⟩ := hg g (Nat.le_of_ble_eq_true hb)
    simp only [RelV]
    exact ⟨l, h1, by rw [h2]; rfl⟩
  | func f =>
    simp only [evR] at h
    cases h
    simp only [RelV]
    exact ⟨f, #[], #[], rfl, rfl, rfl, rfl⟩

/-- The guard's temporary. -/
def guardTmp (ops : Array Oper) (o : Oper) : Option Tmp :=
  match o.guard with
  | none => none
  | some (j, _) => match ops.toList[j]? with
    | none => none
    | some p => p.dst
theorem wanted_at {t : Tree AV} {tmps : Array Value} {ops : Array Oper} {o : Oper} (ht : ∀ d, guardTmp ops o = some d → At ρ t tmps d) (hk : guardOk ops t o = true) : Region.wanted o (yielded ops tmps) = wantedA ops t o := by
  unfold Region.wanted wantedA
  unfold guardOk at hk
  unfold guardTmp at ht
  cases hg : o.guard with
  | none => rfl
  | some g =>
    obtain ⟨j, want⟩ := g
    rw [hg] at hk ht
    simp only [yielded, Array.getElem?_toList] at hk ht ⊢
    cases hj : ops[j]? with
    | none => simp
    | some p =>
      rw [hj] at hk ht
      simp only [Option.bind_some] at hk ht ⊢
      cases hd : p.dst with
      | none => simp
      | some d =>
        rw [hd] at hk ht
        simp only [Option.bind_some] at hk ht ⊢
        exact wanted_core (ht d rfl) hk
end Go.Am
set_option linter.unusedSectionVars false
namespace Go.Am

theorem infos_spec {acts : List (Nat × Nat)} : ∀ {os : List Oper} {ms : List Nat} {i : Nat} {l : List RI}, infos acts os ms i = some l → ms.length = os.length →
    l.length = os.length ∧ ∀ j o m, os[j]? = some o → ms[j]? = some m → l[j]? = some ⟨o, clsOf o, countBefore m acts, countFree (i + j) acts⟩ ∧
      ((clsOf o = .makes ∨ clsOf o = .fills) → countBefore m acts = countIndex (i + j) acts ∧ countFree (i + j) acts = countIndex (i + j) acts)
  | [], [], i, l, h, _ => by
    unfold infos at h
    cases h
    exact ⟨rfl, fun j o m h => by simp at h⟩
  | [], _ :: _, i, l, h, hl => by simp at hl
  | _ :: _, [], i, l, h, hl => by simp at hl
  | o :: os, m :: ms, i, l, h, hl => by
    unfold infos at h
    split at h
    case h_1 => cases h
    rename_i l' hl'
    obtain ⟨q1, q2⟩ := infos_spec hl' (by simpa using hl)
    have fin : l = ⟨o, clsOf o, countBefore m acts, countFree i acts⟩ :: l' ∧ ((clsOf o = .makes ∨ clsOf o = .fills) → countBefore m acts = countIndex i acts ∧ countFree i acts = countIndex i acts) := by
      split at h
      · rename_i hc
        obtain ⟨hb, h⟩ := cond_some h rfl
        cases h
        rw [Bool.and_eq_true] at hb
        exact ⟨by rw [hc], fun _ => ⟨Nat.eq_of_beq_eq_true hb.1, Nat.eq_of_beq_eq_true hb.2⟩⟩
      · rename_i hc
        obtain ⟨hb, h⟩ := cond_some h rfl
        cases h
        rw [Bool.and_eq_true] at hb
        exact ⟨by rw [hc], fun _ => ⟨Nat.eq_of_beq_eq_true hb.1, Nat.eq_of_beq_eq_true hb.2⟩⟩
      · rename_i h1 h2
        cases h
        exact ⟨rfl, fun hh => by rcases hh with hh | hh <;> simp_all⟩
    obtain ⟨rfl, f2⟩ := fin
    refine ⟨by simp [q1], fun j o' m' ho hm => ?_⟩
    cases j with
    | zero =>
      simp only [List.getElem?_cons_zero, Option.some.injEq] at ho hm
      subst ho; subst hm
      exact ⟨rfl, f2⟩
    | succ j =>
      simp only [List.getElem?_cons_succ] at ho hm
      have e : i + 1 + j = i + (j + 1) := by omega
      have := q2 j o' m' ho hm
      rw [e] at this
      simpa using this
end Go.Am
set_option linter.unusedSectionVars false
namespace Go.Am
variable {P : Program} [Orc P] [OrcOk P] {ρ : Ren} {H : AHeap} {w : World} {ev : Operand → Option AV} {evc : Operand → Value} {o : Oper}

theorem quiet_call (h : RelH P ρ H w) (hev : ∀ x a, ev x = some a → RelV ρ a (evc x)) {c : Call} {args : List AV} {v : AV} {H' : AHeap} (ha : evals ev c.args.toList = some args)
    (hx : (match c.callee with
      | .builtin b => builtinA P H b c.argTypes.toList args
      | .value f => match ev f with
        | some (.fn fn first captured) => callA P fn (first ++ args ++ captured)
        | some (.yieldf l) => some (.yield l args)
        | _ => none
      | .invoke _ _ => none) = some (.value v H')) (hop : o.op = .call c)
    (hcls : (match c.callee with
      | .builtin .len => Cls.reads
      | .builtin .max => .reads
      | .builtin .min => .reads
      | _ => .acts) = .pure ∨ (match c.callee with
      | .builtin .len => Cls.reads
      | .builtin .max => .reads
      | .builtin .min => .reads
      | _ => .acts) = .reads) : QuietV P ρ w ((execOp evc o).run P w) v := by
  have ra := evals_rel hev ha
  rw [← Array.toList_map] at ra
  unfold execOp
  rw [hop]
  simp only
  unfold resolve
  generalize hts : c.argTypes.toList = ts at hx
  have hts' : c.argTypes = ts.toArray := by rw [← hts]
  generalize hvs : c.args.map evc = vs at ra
  obtain ⟨vs⟩ := vs
  simp only at ra
  cases hc : c.callee with
  | value f => rw [hc] at hcls; rcases hcls with k | k <;> cases k
  | invoke a b => rw [hc] at hcls; rcases hcls with k | k <;> cases k
  | builtin b =>
    rw [hc] at hx
    simp only [Sem.run_bind, Sem.run_pure, Result.andThen_ok, invoke]
    simp only at hx
    rw [hts']
    unfold builtinA at hx
    split at hx
    · rename_i hc2; rw [hc] at hcls; rcases hcls with k | k <;> cases k
    · rename_i t us x xs
      cases hl : lenA P H t x with
      | none => rw [hl] at hx; cases hx
      | some v =>
        rw [hl] at hx; cases hx
        simp only [RelL] at ra
        obtain ⟨x', xs', rfl, rx, _⟩ := ra
        obtain ⟨u, h1, h2⟩ := lenA_rel h hl rx o.type us xs'
        refine QuietV.same h (v := u) ?_ h2
        unfold builtin
        simp only [Sem.run_bind, h1, Result.andThen_ok, Sem.run_pure]
    · rename_i x l
      cases hm : maxA x l with
      | none => rw [hm] at hx; cases hx
      | some v =>
        rw [hm] at hx; cases hx
        simp only [RelL] at ra
        obtain ⟨x', l', rfl, rx, rl⟩ := ra
        obtain ⟨u, h1, h2⟩ := maxA_rel (P := P) (w := w) rl rx hm
        refine QuietV.same h (v := u) ?_ h2
        unfold builtin Builtin.max_
        simp only [Sem.run_bind, h1, Result.andThen_ok, Sem.run_pure]
    · rename_i x l
      cases hm : minA x l with
      | none => rw [hm] at hx; cases hx
      | some v =>
        rw [hm] at hx; cases hx
        simp only [RelL] at ra
        obtain ⟨x', l', rfl, rx, rl⟩ := ra
        obtain ⟨u, h1, h2⟩ := minA_rel (P := P) (w := w) rl rx hm
        refine QuietV.same h (v := u) ?_ h2
        unfold builtin Builtin.min_
        simp only [Sem.run_bind, h1, Result.andThen_ok, Sem.run_pure]
    · cases hx
    · cases hx
    · cases hx

theorem quiet_rel (h : RelH P ρ H w) (hev : ∀ x a, ev x = some a → RelV ρ a (evc x)) (hcls : clsOf o = .pure ∨ clsOf o = .reads) {v : AV} {H' : AHeap} (hx : execA P H ev o = some (.value v H')) : QuietV P ρ w ((execOp evc o).run P w) v := by
  unfold clsOf at hcls
  unfold execA at hx
  split at hx
  · -- move
    rename_i x hop
    split at hx
    case h_2 => cases hx
    rename_i v hv
    cases hx
    exact QuietV.same h (v := evc x) (by unfold execOp; rw [hop]; rfl) (hev _ _ hv)
  · -- assign
    rename_i x hop
    split at hx
    case h_2 => cases hx
    rename_i v hv
    cases hx
    exact QuietV.same h (v := evc x) (by unfold execOp; rw [hop]; rfl) (hev _ _ hv)
  · -- pick
    rename_i c a b hop
    split at hx
    · rename_i hc
      split at hx
      case h_2 => cases hx
      rename_i v hv
      cases hx
      have k := hev _ _ hc
      simp only [RelV] at k
      exact QuietV.same h (v := evc a) (by unfold execOp; rw [hop]; simp [k, asBool]) (hev _ _ hv)
    · rename_i hc
      split at hx
      case h_2 => cases hx
      rename_i v hv
      cases hx
      have k := hev _ _ hc
      simp only [RelV] at k
      exact QuietV.same h (v := evc b) (by unfold execOp; rw [hop]; simp [k, asBool]) (hev _ _ hv)
    · cases hx
  · rename_i hop
    rw [hop] at hcls
    rcases hcls with k | k <;> cases k
  · rename_i hop
    rw [hop] at hcls
    rcases hcls with k | k <;> cases k
  · -- build
    rename_i t parts hop
    split at hx
    · rename_i z fs ps hz hu hp
      split at hx
      case h_1 => cases hx
      rename_i pl hpl
      split at hx
      case h_2 => cases hx
      rename_i cs hf
      cases hx
      exact build_rel h hev hz hp hop hf (Or.inl ⟨fs, pl, hu, hpl, rfl⟩)
    · rename_i z n elem ps hz hu hp
      split at hx
      case h_1 => cases hx
      rename_i m hm
      split at hx
      case h_2 => cases hx
      rename_i cs hf
      cases hx
      exact build_rel h hev hz hp hop hf (Or.inr ⟨n, elem, m, hu, hm, rfl⟩)
    · cases hx
  · rename_i hop
    rw [hop] at hcls
    rcases hcls with k | k <;> cases k
  · -- load
    rename_i t a hop
    split at hx
    case h_2 => cases hx
    rename_i i off ha
    split at hx
    case h_2 => cases hx
    rename_i v hv
    cases hx
    exact load_rel h hev ha hv hop
  · rename_i hop
    rw [hop] at hcls
    rcases hcls with k | k <;> cases k
  · -- nilCheck
    rename_i x hop
    split at hx
    · rename_i i off hv
      cases hx; exact nilCheck_rel h hev hv hop (Or.inl ⟨i, off, rfl⟩)
    · rename_i i hv
      cases hx; exact nilCheck_rel h hev hv hop (Or.inr (Or.inl ⟨i, rfl⟩))
    · rename_i f a b hv
      cases hx; exact nilCheck_rel h hev hv hop (Or.inr (Or.inr (Or.inl ⟨f, a, b, rfl⟩)))
    · rename_i l hv
      cases hx; exact nilCheck_rel h hev hv hop (Or.inr (Or.inr (Or.inr (Or.inl ⟨l, rfl⟩))))
    · rename_i t v hv
      cases hx; exact nilCheck_rel h hev hv hop (Or.inr (Or.inr (Or.inr (Or.inr ⟨t, v, rfl⟩))))
    · cases hx
  · -- binOp
    rename_i op t a b u hop
    split at hx
    case h_2 => cases hx
    rename_i x y ha hb
    split at hx
    case h_2 => cases hx
    rename_i v hv
    cases hx
    exact binOp_op h hev ha hb hv hop
  · -- unOp
    rename_i op t x hop
    split at hx
    · rename_i b hv
      cases hx; exact unOp_not h hev hv hop
    · rename_i k n hv
      cases hx; exact unOp_neg h hev hv hop
    · cases hx
  · -- convert
    rename_i s t x hop
    split at hx
    · rename_i d k j n hs ht hv
      cases hx; exact convert_int h hev hs ht hv hop
    · rename_i b hs ht hv
      cases hx; exact convert_str h hev hs ht hv hop
    · cases hx
  · -- makeInterface
    rename_i t x hop
    split at hx
    · cases hx
    · rename_i d v hne ht hv
      cases hx
      exact makeInterface_rel h hev ht (fun ms hd => hne ms hd) hv hop
    · cases hx
  · -- makeFunc
    rename_i fn first captured hop
    split at hx
    case h_2 => cases hx
    rename_i f a b ha hb
    cases hx
    exact makeFunc_rel h hev ha hb hop
  · rename_i hop
    rw [hop] at hcls
    rcases hcls with k | k <;> cases k
  · -- slice
    rename_i t x lo hi mx hop
    split at hx
    case h_2 => cases hx
    rename_i v hv
    split at hx
    case h_2 => cases hx
    rename_i l hh hl hhi
    split at hx
    case h_2 => cases hx
    rename_i r hr
    cases hx
    exact slice_out h hev hv hl hhi hr hop
  · -- fieldAddr
    rename_i s x f hop
    split at hx
    case h_2 => cases hx
    rename_i fs i off hs hv
    split at hx
    case h_2 => cases hx
    rename_i fd hf
    split at hx
    case h_2 => cases hx
    rename_i n hn
    cases hx
    exact fieldAddr_rel h hev hs hv hf hn hop
  · -- field
    rename_i t x f hop
    split at hx
    case h_2 => cases hx
    rename_i fs cs ht hv
    split at hx
    case h_2 => cases hx
    rename_i fd hf
    split at hx
    case h_2 => cases hx
    rename_i v hp
    cases hx
    exact field_rel h hev ht hv hf hp hop
  · -- indexAddr
    rename_i t x ix hop
    split at hx
    · rename_i elem i off len es k n ht hv hi
      split at hx
      case h_1 => cases hx
      rename_i m hm
      obtain ⟨hb, hx⟩ := cond_some hx rfl
      cases hx
      rw [Bool.and_eq_true] at hb
      have e := Nat.eq_of_beq_eq_true hb.2
      subst e
      exact indexAddr_slice h hev ht hv hi hm (Nat.le_of_ble_eq_true hb.1) hop
    · rename_i len elem i off k n ht hv hi
      split at hx
      case h_1 => cases hx
      rename_i m hm
      obtain ⟨hb, hx⟩ := cond_some hx rfl
      cases hx
      exact indexAddr_array h hev ht hv hi hm (Nat.le_of_ble_eq_true hb) hop
    · cases hx
  · -- index
    rename_i t x ix hop
    split at hx
    · rename_i s k n ht hv hi
      split at hx
      case h_2 => cases hx
      rename_i b hb
      cases hx
      exact index_str h hev ht hv hi hb hop
    · rename_i len elem cs k n ht hv hi
      obtain ⟨hb, hx⟩ := cond_some hx rfl
      split at hx
      case h_1 => cases hx
      rename_i m hm
      split at hx
      case h_2 => cases hx
      rename_i v hp
      cases hx
      exact index_array h hev ht hv hi hm (Nat.le_of_ble_eq_true hb) hp hop
    · cases hx
  · -- lookup
    rename_i t x ix ok hop
    split at hx
    case h_2 => cases hx
    rename_i kt et m k ht hv hi
    split at hx
    case h_2 => cases hx
    rename_i es r0 z he hself hz
    split at hx
    · cases hx
    · rename_i j v hf
      cases hx
      exact lookup_rel h hev ht hv hi he hself hz hf (by cases ok <;> rfl) hop
    · rename_i hf
      cases hx
      exact lookup_rel h hev ht hv hi he hself hz hf (by cases ok <;> rfl) hop
  · rename_i hop
    rw [hop] at hcls
    rcases hcls with k | k <;> cases k
  · rename_i hop
    rw [hop] at hcls
    rcases hcls with k | k <;> cases k
  · -- extract
    rename_i t ix hop
    split at hx
    case h_2 => cases hx
    rename_i vs hv
    split at hx
    case h_2 => cases hx
    rename_i v hi
    cases hx
    exact extract_rel h hev hv hi hop
  · rename_i hop
    rw [hop] at hcls
    rcases hcls with k | k <;> cases k
  · rename_i hop
    rw [hop] at hcls
    rcases hcls with k | k <;> cases k
  · -- call
    rename_i c hop
    rw [hop] at hcls
    simp only at hcls
    split at hx
    · cases hx
    · rename_i args ha
      exact quiet_call h hev ha hx hop hcls
  · rename_i hop
    rw [hop] at hcls
    rcases hcls with k | k <;> cases k
  · cases hx
theorem quietO_rel (h : RelH P ρ H w) (hev : ∀ x a, ev x = some a → RelV ρ a (evc x)) (hcls : clsOf o = .pure ∨ clsOf o = .reads) {v : AV} {H' : AHeap} (hx : execO P H ev o = some (.value v H')) : QuietV P ρ w ((execOp evc o).run P w) v := by
  rcases execO_cases hx with ⟨u, ha, e⟩ | ⟨_, hx⟩
  · cases e; exact askA_quiet h hev ha
  · exact quiet_rel h hev hcls hx
theorem pureO_any (hc : clsOf o = .pure) {v : AV} {H' : AHeap} (hx : execO P H ev o = some (.value v H')) (H2 : AHeap) : execO P H2 ev o = some (.value v H2) := by
  rcases execO_cases hx with ⟨u, ha, e⟩ | ⟨ha, hx⟩
  · cases e; unfold execO; rw [ha]
  · unfold execO; rw [ha]; exact (pure_any hc hx H2).2
theorem readsO_any (hc : clsOf o = .reads) {v : AV} {H' : AHeap} (hx : execO P H ev o = some (.value v H')) (n : Nat) : execO P ⟨H.objs, n⟩ ev o = some (.value v ⟨H.objs, n⟩) := by
  rcases execO_cases hx with ⟨u, ha, e⟩ | ⟨ha, hx⟩
  · cases e; unfold execO; rw [ha]
  · unfold execO; rw [ha]; exact (reads_any hc hx n).2
end Go.Am
