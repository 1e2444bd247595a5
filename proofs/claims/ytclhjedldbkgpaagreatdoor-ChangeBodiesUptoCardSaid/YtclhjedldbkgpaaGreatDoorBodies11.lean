/-
  Part 11 of the proof that winch/winchlaw25.ChangeBodies returns true for every two bodies of small bulk: lemmas.
  Conditions: none beyond each theorem's own premises.
  What lies here:
  Regions that draw, eleventh part: the numbers of a run through a region: stages, memories, what was read.
  Regions that draw, twelfth part: how a run of the machine stands to the run by numbers when a set of the operations is done; each operation keeps it.
-/
import Derived.Test.YtclhjedldbkgpaaGreatDoorBodies10
set_option linter.unusedVariables false
set_option linter.unusedSimpArgs false
set_option linter.unusedSectionVars false
namespace Go.Am
variable {P : Program} [Orc P] [OrcOk P] {rec : ARec} {ops : Array Oper} {ms : List Nat} {pl : List RI}

/-- The number of the object that an operation makes or fills. -/
def exOf (ops : Array Oper) (o : Oper) (S : DS) : Option Nat :=
  bif wantedA ops S.fr.tmps o then match clsOf o with
    | .makes => some S.H.next
    | .fills => fillAt o S.fr.tmps
    | _ => none
  else none
/-- What an operation that is no act does to memory. -/
inductive Eff (ops : Array Oper) (o : Oper) (S1 S2 : DS) : Prop
  | calm (hx : exOf ops o S1 = none) (h : S2.H = S1.H)
  | push (hc : clsOf o = .makes) (hx : exOf ops o S1 = some S1.H.next) (obj : AObj) (h : S2.H = S1.H.push obj)
  | put (hc : clsOf o = .fills) (x : Nat) (old new : AObj) (hx : exOf ops o S1 = some x) (hn : S1.base.next ≤ x) (ho : S1.H.get x = some old) (h : S2.H = S1.H.put x new)

section
variable {r : RI} {S1 S2 : DS} {v : AV}
theorem Did.acted (d : Did P rec ops r S1 S2 v) (hc : isActs r.cls = true) : ∃ H', Acted P S1 S2 H' := by
  cases d with
  | idleAct _ _ _ ha => exact ⟨_, ha⟩
  | idle _ _ h _ => rw [hc] at h; cases h
  | pure _ h => rw [h] at hc; cases hc
  | reads _ h => rw [h] at hc; cases hc
  | makes _ h => rw [h] at hc; cases hc
  | fills _ h => rw [h] at hc; cases hc
  | acts _ _ _ _ ha => exact ⟨_, ha⟩
theorem Did.calm (d : Did P rec ops r S1 S2 v) (hc : isActs r.cls = false) : S2.stage = S1.stage ∧ S2.base = S1.base ∧ S2.snaps = S1.snaps ∧ ∀ p ∈ S1.pend, p ∈ S2.pend := by
  cases d with
  | idleAct _ _ h _ => rw [hc] at h; cases h
  | idle _ _ _ h => rw [h]; exact ⟨rfl, rfl, rfl, fun _ h => h⟩
  | pure _ _ _ _ h => rw [h]; exact ⟨rfl, rfl, rfl, fun _ h => h⟩
  | reads _ _ _ _ _ h => rw [h]; exact ⟨rfl, rfl, rfl, fun _ h => List.mem_cons_of_mem _ h⟩
  | makes _ _ _ _ h => rw [h]; exact ⟨rfl, rfl, rfl, fun _ h => h⟩
  | fills _ _ _ _ _ _ h => rw [h]; exact ⟨rfl, rfl, rfl, fun _ h => h⟩
  | acts _ h => rw [h] at hc; cases hc
theorem Did.eff (d : Did P rec ops r S1 S2 v) (hr : r.cls = clsOf r.o) (hc : isActs r.cls = false) : Eff ops r.o S1 S2 := by
  cases d with
  | idleAct _ _ h _ => rw [hc] at h; cases h
  | idle hw _ _ h => rw [h]; exact .calm (by unfold exOf; rw [hw]; rfl) rfl
  | pure hw hk _ _ h => rw [h]; exact .calm (by unfold exOf; rw [hw, ← hr, hk]; rfl) rfl
  | reads hw hk _ _ _ h => rw [h]; exact .calm (by unfold exOf; rw [hw, ← hr, hk]; rfl) rfl
  | makes hw hk H' hx h =>
    have hkk : clsOf r.o = .makes := hr ▸ hk
    rw [execO_eq (by rw [hkk]; intro e; cases e) (by rw [hkk]; intro e; cases e)] at hx
    obtain ⟨obj, rfl⟩ := makes_push hkk hx
    rw [h]
    exact .push (hr ▸ hk) (by unfold exOf; rw [hw, ← hr, hk]; rfl) obj rfl
  | fills hw hk hn hv H' hx h =>
    have hkk : clsOf r.o = .fills := hr ▸ hk
    rw [execO_eq (by rw [hkk]; intro e; cases e) (by rw [hkk]; intro e; cases e)] at hx
    obtain ⟨x, old, new, f1, f2, f3, f4, _, _⟩ := fills_rel (ρ := fun _ => none) hkk hn hx
    rw [h]
    exact .put (hr ▸ hk) x old new (by unfold exOf; rw [hw, ← hr, hk, cond_true]; exact f1) f2 f3 f4
  | acts _ h => rw [h] at hc; cases hc
end

/-- A run through a region, with its plan. -/
structure Rg (P : Program) [Orc P] [OrcOk P] (rec : ARec) (ops : Array Oper) (ms : List Nat) (pl : List RI) (S0 : DS) (m : Nat) (st : Nat → DS) (v : Nat → AV) : Prop where
  plan : Planned ops ms pl
  run : RunOf P rec ops pl S0 m st v
  mle : m ≤ ops.size
  stage : S0.stage = 0
  base : S0.base = S0.H
  snaps : S0.snaps = []
section
variable {S0 : DS} {m : Nat} {st : Nat → DS} {v : Nat → AV} (g : Rg P rec ops ms pl S0 m st v)
theorem Rg.known (g : Rg P rec ops ms pl S0 m st v) {i : Nat} (hi : i < m) : guardOk ops (st i).fr.tmps (opN ops i) = true := by
  obtain ⟨r, h1, h0, _, _⟩ := g.run.step i hi
  have h4 := (g.plan.ri.2 i (by have := g.mle; omega)).1
  rw [h1] at h4
  cases h4
  exact h0
theorem Rg.step (g : Rg P rec ops ms pl S0 m st v) {i : Nat} (hi : i < m) : (st i).fr.put (opN ops i).dst (v i) = some (st (i + 1)).fr ∧
    Did P rec ops ⟨opN ops i, clsOf (opN ops i), cntN (isA ops) (fun j => bit (mkN ms i) j) ops.size, cntN (isA ops) (fun j => !bit (mkN ms j) i) ops.size⟩ (st i) (st (i + 1)) (v i) := by
  obtain ⟨r, h1, _, h2, h3⟩ := g.run.step i hi
  have h4 := (g.plan.ri.2 i (by have := g.mle; omega)).1
  rw [h1] at h4
  cases h4
  rw [g.plan.lo, g.plan.hi] at h3
  exact ⟨h2, h3⟩
theorem Rg.stages (g : Rg P rec ops ms pl S0 m st v) : ∀ {i : Nat}, i ≤ m → (st i).stage = actN ops i
  | 0, _ => by rw [g.run.start, g.stage]; rfl
  | i + 1, h => by
    have ih := g.stages (i := i) (by omega)
    obtain ⟨_, d⟩ := g.step (i := i) (by omega)
    rw [actN_succ]
    cases hc : isA ops i with
    | true =>
      obtain ⟨H', ha⟩ := d.acted hc
      rw [ha.stage, ih]; rfl
    | false =>
      rw [(d.calm hc).1, ih]; rfl
theorem Rg.bases (g : Rg P rec ops ms pl S0 m st v) {i : Nat} : ∀ {j : Nat}, i ≤ j → j ≤ m → actN ops i = actN ops j → (st j).base = (st i).base
  | 0, hij, _, _ => by rw [Nat.le_zero.1 hij]
  | j + 1, hij, hj, he => by
    by_cases e : i = j + 1
    · rw [e]
    · have h1 := actN_mono ops (i := i) (j := j) (by omega)
      have h2 := actN_succ ops j
      obtain ⟨_, d⟩ := g.step (i := j) (by omega)
      cases hc : isA ops j with
      | true => rw [hc, cond_true] at h2; omega
      | false =>
        rw [hc, cond_false] at h2
        rw [(d.calm hc).2.1]
        exact g.bases (by omega) (by omega) (by omega)
theorem Rg.bases' (g : Rg P rec ops ms pl S0 m st v) {i j : Nat} (hi : i ≤ m) (hj : j ≤ m) (he : actN ops i = actN ops j) : (st j).base = (st i).base := by
  rcases Nat.le_total i j with h | h
  · exact g.bases h hj he
  · exact (g.bases h hi he.symm).symm
theorem Rg.eff (g : Rg P rec ops ms pl S0 m st v) {i : Nat} (hi : i < m) (hc : isA ops i = false) : Eff ops (opN ops i) (st i) (st (i + 1)) := (g.step hi).2.eff rfl hc
theorem act_at (ops : Array Oper) : ∀ {n k : Nat}, k < actN ops n → ∃ a, a < n ∧ isA ops a = true ∧ actN ops a = k
  | 0, k, h => absurd h (Nat.not_lt_zero _)
  | n + 1, k, h => by
    rw [actN_succ] at h
    by_cases e : k < actN ops n
    · obtain ⟨a, h1, h2⟩ := act_at ops e
      exact ⟨a, by omega, h2⟩
    · cases hc : isA ops n with
      | true => rw [hc, cond_true] at h; exact ⟨n, by omega, hc, by omega⟩
      | false => rw [hc, cond_false] at h; omega
theorem act_lt {a b : Nat} (ha : isA ops a = true) (h : a < b) : actN ops a < actN ops b := by
  have h1 := actN_mono ops (i := a + 1) (j := b) h
  rw [actN_succ, ha, cond_true] at h1
  omega

/-- The next number. -/
theorem Rg.next_base (g : Rg P rec ops ms pl S0 m st v) : ∀ {i : Nat}, i ≤ m → (st i).base.next ≤ (st i).H.next
  | 0, _ => by rw [g.run.start, g.base]; exact Nat.le_refl _
  | i + 1, h => by
    have ih := g.next_base (i := i) (by omega)
    obtain ⟨_, d⟩ := g.step (i := i) (by omega)
    cases hc : isA ops i with
    | true =>
      obtain ⟨H', ha⟩ := d.acted hc
      rw [ha.base, ha.heap]; exact Nat.le_refl _
    | false =>
      rw [(d.calm hc).2.1]
      cases g.eff (i := i) (by omega) hc with
      | calm _ h => rw [h]; exact ih
      | push _ _ _ h => rw [h, next_push]; omega
      | put _ _ _ _ _ _ _ h => rw [h, next_put]; exact ih
theorem Rg.next_le (g : Rg P rec ops ms pl S0 m st v) {i : Nat} : ∀ {j : Nat}, i ≤ j → j ≤ m → actN ops i = actN ops j → (st i).H.next ≤ (st j).H.next
  | 0, hij, _, _ => by rw [Nat.le_zero.1 hij]; exact Nat.le_refl _
  | j + 1, hij, hj, he => by
    by_cases e : i = j + 1
    · rw [e]; exact Nat.le_refl _
    · have h1 := actN_mono ops (i := i) (j := j) (by omega)
      have h2 := actN_succ ops j
      cases hc : isA ops j with
      | true => rw [hc, cond_true] at h2; omega
      | false =>
        rw [hc, cond_false] at h2
        have ih := g.next_le (i := i) (j := j) (by omega) (by omega) (by omega)
        cases g.eff (i := j) (by omega) hc with
        | calm _ h => rw [h]; exact ih
        | push _ _ _ h => rw [h, next_push]; omega
        | put _ _ _ _ _ _ _ h => rw [h, next_put]; exact ih
theorem isA_makes {j : Nat} (h : clsOf (opN ops j) = .makes) : isA ops j = false := by unfold isA; rw [h]; rfl
theorem isA_fills {j : Nat} (h : clsOf (opN ops j) = .fills) : isA ops j = false := by unfold isA; rw [h]; rfl
theorem exOf_cls {o : Oper} {S : DS} {x : Nat} (h : exOf ops o S = some x) : wantedA ops S.fr.tmps o = true ∧ ((clsOf o = .makes ∧ x = S.H.next) ∨ (clsOf o = .fills ∧ fillAt o S.fr.tmps = some x)) := by
  unfold exOf at h
  obtain ⟨hw, h⟩ := cond_some h rfl
  refine ⟨hw, ?_⟩
  split at h
  · rename_i hc; cases h; exact Or.inl ⟨hc, rfl⟩
  · rename_i hc; exact Or.inr ⟨hc, h⟩
  · cases h
theorem exOf_isA {i : Nat} {S : DS} {x : Nat} (h : exOf ops (opN ops i) S = some x) : isA ops i = false := by
  rcases (exOf_cls h).2 with ⟨h, _⟩ | ⟨h, _⟩
  · exact isA_makes h
  · exact isA_fills h
theorem Rg.next_lt (g : Rg P rec ops ms pl S0 m st v) {i j x : Nat} (hc : clsOf (opN ops i) = .makes) (hx : exOf ops (opN ops i) (st i) = some x) (hij : i < j) (hj : j ≤ m) (he : actN ops i = actN ops j) : x < (st j).H.next := by
  have h0 : actN ops (i + 1) = actN ops i := by rw [actN_succ, isA_makes hc]; rfl
  have h1 := g.next_le (i := i + 1) (j := j) hij hj (by omega)
  cases g.eff (i := i) (by omega) (isA_makes hc) with
  | calm h _ => rw [hx] at h; cases h
  | push _ h _ h2 =>
    rw [hx] at h
    cases h
    rw [h2, next_push] at h1
    omega
  | put h => rw [hc] at h; cases h
theorem Rg.ex_ge (g : Rg P rec ops ms pl S0 m st v) {i x : Nat} (hi : i < m) (hx : exOf ops (opN ops i) (st i) = some x) : (st i).base.next ≤ x := by
  cases g.eff (i := i) hi (exOf_isA hx) with
  | calm h _ => rw [hx] at h; cases h
  | push _ h _ h2 =>
    rw [hx] at h
    cases h
    exact g.next_base (by omega)
  | put _ _ _ _ h hn =>
    rw [hx] at h
    cases h
    exact hn
theorem Rg.ex_inj (g : Rg P rec ops ms pl S0 m st v) {i j x : Nat} (hi : i < m) (hj : j < m) (ci : clsOf (opN ops i) = .makes) (cj : clsOf (opN ops j) = .makes) (xi : exOf ops (opN ops i) (st i) = some x) (xj : exOf ops (opN ops j) (st j) = some x) (he : actN ops i = actN ops j) : i = j := by
  have key : ∀ {i j : Nat}, j < m → clsOf (opN ops i) = .makes → clsOf (opN ops j) = .makes → exOf ops (opN ops i) (st i) = some x → exOf ops (opN ops j) (st j) = some x → actN ops i = actN ops j → ¬ i < j := fun {i j} hj ci cj xi xj he hlt => by
    have h1 := g.next_lt ci xi hlt (by omega) he
    rcases (exOf_cls xj).2 with ⟨_, h⟩ | ⟨h, _⟩
    · omega
    · rw [cj] at h; cases h
  rcases Nat.lt_trichotomy i j with h | h | h
  · exact absurd h (key hj ci cj xi xj he)
  · exact h
  · exact absurd h (key hi cj ci xj xi he.symm)

/-- The memory that a set of operations makes, over the one behind an act. -/
def curN (ops : Array Oper) (st : Nat → DS) (B : AHeap) (C : Nat → Bool) (k : Nat) : Nat → Nat → Option AObj
  | 0, x => B.get x
  | i + 1, x => if C i = true ∧ actN ops i = k ∧ exOf ops (opN ops i) (st i) = some x then (st (i + 1)).H.get x else curN ops st B C k i x
theorem curN_same {B : AHeap} {C C' : Nat → Bool} {k x : Nat} : ∀ {i : Nat}, (∀ j, j < i → actN ops j = k → exOf ops (opN ops j) (st j) = some x → C j = C' j) → curN ops st B C k i x = curN ops st B C' k i x
  | 0, _ => rfl
  | i + 1, h => by
    rw [curN, curN, curN_same fun j hj => h j (by omega)]
    by_cases e : actN ops i = k ∧ exOf ops (opN ops i) (st i) = some x
    · rw [h i (by omega) e.1 e.2]
    · rw [if_neg (fun z => e z.2), if_neg (fun z => e z.2)]
theorem curN_cut {B : AHeap} {C : Nat → Bool} {k x n : Nat} : ∀ {i : Nat}, n ≤ i → (∀ j, n ≤ j → j < i → C j = true → actN ops j = k → exOf ops (opN ops j) (st j) ≠ some x) → curN ops st B C k i x = curN ops st B C k n x
  | 0, h, _ => by rw [Nat.le_zero.1 h]
  | i + 1, h, hj => by
    by_cases e : n = i + 1
    · rw [e]
    · rw [curN, if_neg (fun z => hj i (by omega) (by omega) z.1 z.2.1 z.2.2)]
      exact curN_cut (by omega) fun j h1 h2 => hj j h1 (by omega)
theorem curN_base {B : AHeap} {C : Nat → Bool} {k x i : Nat} (h : ∀ j, j < i → C j = true → actN ops j = k → exOf ops (opN ops j) (st j) ≠ some x) : curN ops st B C k i x = B.get x :=
  curN_cut (n := 0) (Nat.zero_le _) fun j _ => h j
/-- In the order of the numbers it is the run's own memory. -/
theorem Rg.cur_run (g : Rg P rec ops ms pl S0 m st v) (x : Nat) : ∀ {i : Nat}, i ≤ m → (st i).H.get x = curN ops st (st i).base (fun _ => true) (actN ops i) i x
  | 0, _ => by rw [g.run.start, curN, g.base]
  | i + 1, h => by
    have ih := g.cur_run x (i := i) (by omega)
    obtain ⟨_, d⟩ := g.step (i := i) (by omega)
    have hs := actN_succ ops i
    cases hc : isA ops i with
    | true =>
      obtain ⟨H', ha⟩ := d.acted hc
      rw [hc, cond_true] at hs
      rw [curN_base]
      · rw [ha.base, ha.heap]
      · intro j hj _ he
        have := actN_mono ops (i := j) (j := i) (by omega)
        omega
    | false =>
      rw [hc, cond_false] at hs
      have hs : actN ops (i + 1) = actN ops i := hs
      rw [curN, hs, (d.calm hc).2.1]
      by_cases e : exOf ops (opN ops i) (st i) = some x
      · rw [if_pos ⟨rfl, rfl, e⟩]
      · rw [if_neg (fun z => e z.2.2), ← ih]
        cases g.eff (i := i) (by omega) hc with
        | calm _ h => rw [h]
        | push _ h0 _ h =>
          rw [h, get_push, if_neg]
          intro e'
          rw [e'] at e
          exact e h0
        | put _ y _ _ h0 _ _ h =>
          rw [h, get_put, if_neg]
          intro e'
          rw [e'] at e
          exact e h0
theorem Rg.wf_run (g : Rg P rec ops ms pl S0 m st v) {i : Nat} (hi : i ≤ m) (hw : ∀ x o, (st i).base.get x = some o → x < (st i).base.next) : ∀ x o, (st i).H.get x = some o → x < (st i).H.next := by
  induction i with
  | zero => rw [g.run.start] at hw ⊢; rw [g.base] at hw; exact hw
  | succ i ih =>
    obtain ⟨_, d⟩ := g.step (i := i) (by omega)
    cases hc : isA ops i with
    | true =>
      obtain ⟨H', ha⟩ := d.acted hc
      rw [ha.base] at hw
      rw [ha.heap]
      exact hw
    | false =>
      rw [(d.calm hc).2.1] at hw
      have ih := ih (by omega) hw
      cases g.eff (i := i) (by omega) hc with
      | calm _ h => rw [h]; exact ih
      | push _ h0 _ h =>
        rw [h]
        intro x o hx
        rw [next_push]
        rw [get_push] at hx
        split at hx
        · omega
        · have := ih x o hx; omega
      | put _ y old _ h0 _ ho h =>
        rw [h]
        intro x o hx
        rw [next_put]
        rw [get_put] at hx
        split at hx
        · rename_i e; rw [e]; exact ih y old ho
        · exact ih x o hx

/-- The temporaries. -/
theorem put_tmps {fr fr' : AFrame} {d : Option Tmp} {a : AV} (h : fr.put d a = some fr') : (∀ e, tmpOf fr'.tmps e = if d = some e then a else tmpOf fr.tmps e) ∧ (∀ e, d = some e → e < fr.n) ∧ fr' = { fr with tmps := fr'.tmps } := by
  unfold AFrame.put at h
  cases d with
  | none => cases h; exact ⟨fun e => by simp, (fun e he => by cases he), rfl⟩
  | some d =>
    obtain ⟨hb, h⟩ := cond_some h rfl
    cases h
    refine ⟨fun e => ?_, (fun e he => by cases he; exact Nat.le_of_ble_eq_true hb), rfl⟩
    show tmpOf (fr.tmps.put d a) e = _
    rw [tmpOf_put]
    by_cases h1 : e = d
    · subst h1; simp
    · rw [if_neg h1, if_neg (fun z => h1 (Option.some.inj z).symm)]
theorem Rg.frame (g : Rg P rec ops ms pl S0 m st v) : ∀ {i : Nat}, i ≤ m → (st i).fr = { S0.fr with tmps := (st i).fr.tmps }
  | 0, _ => by rw [g.run.start]
  | i + 1, h => by
    have ih := g.frame (i := i) (by omega)
    have h1 := (put_tmps (g.step (i := i) (by omega)).1).2.2
    rw [h1, ih]
theorem Rg.tmps (g : Rg P rec ops ms pl S0 m st v) (d : Tmp) : ∀ {i : Nat}, i ≤ m → tmpOf (st i).fr.tmps d = valN ops v S0.fr.tmps (fun _ => true) i d
  | 0, _ => by rw [g.run.start]; rfl
  | i + 1, h => by
    rw [(put_tmps (g.step (i := i) (by omega)).1).1, valN, g.tmps d (by omega)]
    by_cases e : (opN ops i).dst = some d
    · rw [if_pos e, if_pos ⟨rfl, e⟩]
    · rw [if_neg e, if_neg (fun z => e z.2)]

/-- What has been read may be read whenever it can be its turn. -/
theorem Rg.snap_at (g : Rg P rec ops ms pl S0 m st v) : ∀ {i s : Nat}, i ≤ m → s < actN ops i → ∃ j, j ≤ i ∧ actN ops j + 1 + s = actN ops i ∧ (st i).snaps[s]? = some (st j).base
  | 0, s, _, h => absurd h (Nat.not_lt_zero _)
  | i + 1, s, hi, hs => by
    obtain ⟨_, d⟩ := g.step (i := i) (by omega)
    have h1 := actN_succ ops i
    cases hc : isA ops i with
    | true =>
      obtain ⟨H', ha⟩ := d.acted hc
      rw [hc, cond_true] at h1
      rw [ha.snaps]
      cases s with
      | zero => exact ⟨i, by omega, by omega, rfl⟩
      | succ s =>
        obtain ⟨j, q1, q2, q3⟩ := g.snap_at (i := i) (s := s) (by omega) (by omega)
        exact ⟨j, by omega, by omega, by simpa using q3⟩
    | false =>
      rw [hc, cond_false] at h1
      rw [(d.calm hc).2.2.1]
      obtain ⟨j, q1, q2, q3⟩ := g.snap_at (i := i) (s := s) (by omega) (by omega)
      exact ⟨j, by omega, by omega, q3⟩
theorem Rg.pend_keep (g : Rg P rec ops ms pl S0 m st v) {i : Nat} {p : Pend} (hp : p ∈ (st i).pend) : ∀ {j : Nat}, i ≤ j → j ≤ m → p ∈ (st j).pend
  | 0, h, _ => by rw [Nat.le_zero.1 h] at hp; exact hp
  | j + 1, h, hj => by
    by_cases e : i = j + 1
    · rw [← e]; exact hp
    · have ih := g.pend_keep hp (j := j) (by omega) (by omega)
      obtain ⟨_, d⟩ := g.step (i := j) (by omega)
      cases hc : isA ops j with
      | true =>
        obtain ⟨H', ha⟩ := d.acted hc
        rw [ha.pend]; exact ih
      | false => exact (d.calm hc).2.2.2 p ih
theorem Rg.read_at (g : Rg P rec ops ms pl S0 m st v) {i k : Nat} {B : AHeap} (hi : i < m) (hc : clsOf (opN ops i) = .reads) (hw : wantedA ops (st i).fr.tmps (opN ops i) = true) (hlo : cntN (isA ops) (fun j => bit (mkN ms i) j) ops.size ≤ k) (hhi : k ≤ cntN (isA ops) (fun j => !bit (mkN ms j) i) ops.size)
    (hk : k ≤ actN ops m) (hB : ∀ j, j ≤ m → actN ops j = k → (st j).base = B) : ∃ H', execO P B (evR (opN ops i) (st i).fr.tmps) (opN ops i) = some (.value (v i) H') := by
  obtain ⟨_, d⟩ := g.step hi
  cases d with
  | idleAct hw' => rw [hw] at hw'; cases hw'
  | idle hw' => rw [hw] at hw'; cases hw'
  | pure _ h => rw [hc] at h; cases h
  | makes _ h => rw [hc] at h; cases h
  | fills _ h => rw [hc] at h; cases h
  | acts _ h => rw [hc] at h; cases h
  | reads _ _ H' hx hh h2 =>
    rcases Nat.lt_trichotomy k (actN ops i) with hlt | heq | hgt
    · rw [g.stages (i := i) (by omega)] at hh
      obtain ⟨j, q1, q2, q3⟩ := g.snap_at (i := i) (s := actN ops i - 1 - k) (by omega) (by omega)
      obtain ⟨H1, H2, r1, r2⟩ := heldIn_spec hh (actN ops i - 1 - k) (by simp only; omega)
      rw [q3] at r1
      cases r1
      rw [hB j (by omega) (by omega)] at r2
      exact ⟨H2, r2⟩
    · rw [hB i (by omega) heq.symm] at hx
      exact ⟨H', hx⟩
    · obtain ⟨a, a1, a2, a3⟩ := act_at ops (n := m) (k := k - 1) (by omega)
      have hia : i < a := by
        have hna : isA ops i = false := by unfold isA; rw [hc]; rfl
        rcases Nat.lt_trichotomy i a with h | h | h
        · exact h
        · subst h; rw [hna] at a2; cases a2
        · have := act_lt a2 h; omega
      obtain ⟨_, da⟩ := g.step a1
      obtain ⟨H1, ha⟩ := da.acted a2
      have hp : (⟨opN ops i, (st i).fr.tmps, v i, cntN (isA ops) (fun j => !bit (mkN ms j) i) ops.size⟩ : Pend) ∈ (st a).pend := by
        refine g.pend_keep (i := i + 1) ?_ hia (by omega)
        rw [h2]
        exact List.mem_cons_self
      obtain ⟨H2, r2⟩ := heldNow_spec ha.held _ hp (by
        rw [g.stages (i := a) (by omega)]
        simp only
        omega)
      have hs := actN_succ ops a
      rw [a2, cond_true] at hs
      have hb := hB (a + 1) (by omega) (by omega)
      rw [ha.base] at hb
      rw [hb] at r2
      exact ⟨H2, r2⟩
end
end Go.Am
set_option linter.unusedSectionVars false
namespace Go.Am
variable {P : Program} [Orc P] [OrcOk P] {rec : ARec} {ops : Array Oper} {ms : List Nat} {pl : List RI}

structure Inv (P : Program) [Orc P] [OrcOk P] (ops : Array Oper) (m : Nat) (st : Nat → DS) (v : Nat → AV) (ρ0 : Ren) (w0 : World) (C : Nat → Bool) (k : Nat) (B : AHeap) (ρ : Ren) (w : World) (tmps : Array Value) : Prop where
  low : ∀ i, C i = true → i < m
  clos : Closed ops (fun i => C i = true)
  acts : ∀ a, a < m → isA ops a = true → (C a = true ↔ actN ops a < k)
  kle : k ≤ actN ops m
  base : ∀ i, i ≤ m → actN ops i = k → (st i).base = B
  wf : ∀ x o, B.get x = some o → x < B.next
  heap : ∃ Hc : AHeap, (∀ x, Hc.get x = curN ops st B C k m x) ∧ RelH P ρ Hc w ∧ Ext ρ0 (st 0).H w0 ρ Hc w
  fresh : ∀ x, B.next ≤ x → ρ x ≠ none → ∃ j, C j = true ∧ actN ops j = k ∧ clsOf (opN ops j) = .makes ∧ exOf ops (opN ops j) (st j) = some x
  made : ∀ j x, C j = true → actN ops j = k → exOf ops (opN ops j) (st j) = some x → ρ x ≠ none
  glob : Glob ρ
  size : tmps.size = (st 0).fr.n
  tmp : ∀ d, RelJ ρ (valN ops v (st 0).fr.tmps C m d) (tmps.getD d Go.undef)

/-- It is an operation's turn. -/
structure Turn (ops : Array Oper) (C : Nat → Bool) (i : Nat) : Prop where
  size : i < ops.size
  out : C i = false
  waits : ∀ e ∈ (opN ops i).after.toList, Region.binds .any e = true → C e.on = true

section
variable {S0 : DS} {m : Nat} {st : Nat → DS} {v : Nat → AV} {ρ0 : Ren} {w0 : World} {C : Nat → Bool} {k : Nat} {B : AHeap} {ρ : Ren} {w : World} {tmps : Array Value} {i : Nat}

theorem Rg.m_le (g : Rg P rec ops ms pl S0 m st v) {j : Nat} (h : j < m) : j < ops.size := Nat.lt_of_lt_of_le h g.mle
theorem Turn.mask (t : Turn ops C i) (p : Planned ops ms pl) (hc : Closed ops (fun i => C i = true)) {a : Nat} (h : bit (mkN ms i) a = true) : C a = true :=
  (mask_closed p.bef hc (opN_get t.size) (mkN_get (by rw [p.len]; exact t.size)) t.waits a h).1
theorem Turn.not_before (t : Turn ops C i) (p : Planned ops ms pl) (hc : Closed ops (fun i => C i = true)) {j : Nat} (hj : C j = true) (hs : j < ops.size) : bit (mkN ms j) i = false := by
  cases hb : bit (mkN ms j) i with
  | false => rfl
  | true =>
    obtain ⟨o, h1, h2⟩ := hc j hj
    have := (mask_closed p.bef hc h1 (mkN_get (by rw [p.len]; exact hs)) h2 i hb).1
    rw [t.out] at this
    cases this

/-- The temporaries that an operation looks at are as in the run by numbers. -/
theorem Inv.seen (g : Rg P rec ops ms pl S0 m st v) (n : Inv P ops m st v ρ0 w0 C k B ρ w tmps) (t : Turn ops C i) (hi : i ≤ m) {d : Tmp} (hd : d ∈ looks ops.toList (opN ops i)) :
    valN ops v (st 0).fr.tmps C m d = tmpOf (st i).fr.tmps d := by
  rw [g.tmps d hi, ← g.run.start]
  by_cases h : ∃ j, j < m ∧ (opN ops j).dst = some d
  · obtain ⟨j, hj, dj⟩ := h
    have uniq : ∀ j', j' < m → (opN ops j').dst = some d → j' = j := fun j' h1 h2 => g.plan.dst_inj (g.m_le h1) (g.m_le hj) h2 dj
    have wr := g.plan.writer t.size (g.m_le hj) hd dj
    by_cases hlt : j < i
    · have hC : C j = true := by
        rcases wr with h | h | h
        · omega
        · exact t.mask g.plan n.clos h
        · have := g.plan.bit_lt (g.m_le hj) h; omega
      rw [valN_one hC dj hj uniq, valN_one rfl dj hlt (fun j' h1 h2 => uniq j' (by omega) h2)]
    · have hC : C j = false := by
        cases hq : C j with
        | false => rfl
        | true =>
          rcases wr with h | h | h
          · subst h; rw [t.out] at hq; cases hq
          · have := g.plan.bit_lt t.size h; omega
          · rw [t.not_before g.plan n.clos hq (g.m_le hj)] at h; cases h
      rw [valN_none, valN_none]
      · intro j' h1 _ h2
        have := uniq j' (by omega) h2
        omega
      · intro j' h1 h3 h2
        rw [uniq j' h1 h2, hC] at h3
        cases h3
  · rw [valN_none fun j hj _ dj => h ⟨j, hj, dj⟩, valN_none fun j hj _ dj => h ⟨j, by omega, dj⟩]

theorem looks_ops {o : Oper} {l : List Oper} {d : Tmp} (h : d ∈ tmpsIn o.op.operands.toList) : d ∈ looks l o := by
  unfold looks
  (repeat' split) <;> first | exact h | exact List.mem_cons_of_mem _ h
theorem looks_guard {o : Oper} {d : Tmp} (h : guardTmp ops o = some d) : d ∈ looks ops.toList o := by
  unfold guardTmp at h
  unfold looks
  cases hg : o.guard with
  | none => rw [hg] at h; cases h
  | some g =>
    obtain ⟨j, b⟩ := g
    rw [hg] at h
    simp only at h ⊢
    cases hj : ops.toList[j]? with
    | none => rw [hj] at h; cases h
    | some p =>
      rw [hj] at h
      simp only at h ⊢
      rw [h]
      exact List.mem_cons_self
theorem Inv.ev (g : Rg P rec ops ms pl S0 m st v) (n : Inv P ops m st v ρ0 w0 C k B ρ w tmps) (t : Turn ops C i) (hi : i ≤ m) {c : Frame} (hc : c.tmps = tmps) :
    ∀ x a, evR (opN ops i) (st i).fr.tmps x = some a → RelV ρ a (c.eval x) :=
  evR_rel n.glob fun d hd => by
    unfold At
    rw [hc, ← n.seen g t hi (looks_ops hd)]
    exact n.tmp d
theorem Inv.wants (g : Rg P rec ops ms pl S0 m st v) (n : Inv P ops m st v ρ0 w0 C k B ρ w tmps) (t : Turn ops C i) (hi : i ≤ m) (hk : guardOk ops (st i).fr.tmps (opN ops i) = true) : Region.wanted (opN ops i) (yielded ops tmps) = wantedA ops (st i).fr.tmps (opN ops i) :=
  wanted_at (fun d hd => by
    unfold At
    rw [← n.seen g t hi (looks_guard hd)]
    exact n.tmp d) hk

/-- An act, or what makes or fills, has its turn between the same acts as in the run by numbers. -/
theorem Inv.turn_le (n : Inv P ops m st v ρ0 w0 C k B ρ w tmps) (hi : i ≤ m) (hm : ∀ a, a < i → isA ops a = true → C a = true) : actN ops i ≤ k := by
  rcases Nat.lt_or_ge k (actN ops i) with h | h
  · obtain ⟨a, a1, a2, a3⟩ := act_at ops h
    have := (n.acts a (by omega) a2).1 (hm a a1 a2)
    omega
  · exact h
theorem Inv.turn_act (g : Rg P rec ops ms pl S0 m st v) (n : Inv P ops m st v ρ0 w0 C k B ρ w tmps) (t : Turn ops C i) (hi : i ≤ m) (ha : isA ops i = true) : actN ops i = k := by
  have h1 := n.turn_le hi fun a h1 h2 => t.mask g.plan n.clos (g.plan.act_before h2 ha h1 t.size)
  rcases Nat.lt_or_ge i m with h | h
  · have h2 := n.acts i h ha
    rw [t.out] at h2
    have : ¬ actN ops i < k := fun z => by have := h2.2 z; cases this
    omega
  · have : i = m := by omega
    subst this
    have := n.kle
    omega
theorem Inv.turn_made (g : Rg P rec ops ms pl S0 m st v) (n : Inv P ops m st v ρ0 w0 C k B ρ w tmps) (t : Turn ops C i) (hi : i < m) (hc : clsOf (opN ops i) = .makes ∨ clsOf (opN ops i) = .fills) : actN ops i = k := by
  have h1 := n.turn_le (Nat.le_of_lt hi) fun a h1 h2 => t.mask g.plan n.clos (g.plan.made_after t.size hc h2 h1)
  rcases Nat.lt_or_ge (actN ops i) k with h | h
  · obtain ⟨a, a1, a2, a3⟩ := act_at ops (n := m) (k := actN ops i) (by have := n.kle; omega)
    have hna : isA ops i = false := by
      rcases hc with hc | hc
      · exact isA_makes hc
      · exact isA_fills hc
    have hlt : i < a := by
      rcases Nat.lt_trichotomy i a with h | h | h
      · exact h
      · subst h; rw [hna] at a2; cases a2
      · have := act_lt a2 h; omega
    have hC := (n.acts a a1 a2).2 (by omega)
    have h3 := t.not_before g.plan n.clos hC (g.m_le a1)
    rw [g.plan.made_before t.size hc a2 hlt (g.m_le a1)] at h3
    cases h3
  · omega
theorem Inv.later (g : Rg P rec ops ms pl S0 m st v) (n : Inv P ops m st v ρ0 w0 C k B ρ w tmps) {j : Nat} (hj : C j = true) (hc : clsOf (opN ops j) = .makes ∨ clsOf (opN ops j) = .fills) : actN ops j ≤ k := by
  have hjm := n.low j hj
  obtain ⟨o, h1, h2⟩ := n.clos j hj
  refine n.turn_le (Nat.le_of_lt hjm) fun a h3 h4 => ?_
  exact (mask_closed g.plan.bef n.clos h1 (mkN_get (by rw [g.plan.len]; exact g.m_le hjm)) h2 a (g.plan.made_after (g.m_le hjm) hc h4 h3)).1

/-- Where just what stands before a number has been made, memory is the run's own there. -/
theorem Inv.full (g : Rg P rec ops ms pl S0 m st v) (n : Inv P ops m st v ρ0 w0 C k B ρ w tmps) (hi : i ≤ m) (hk : actN ops i = k)
    (hin : ∀ j, j < i → actN ops j = k → (clsOf (opN ops j) = .makes ∨ clsOf (opN ops j) = .fills) → C j = true)
    (hout : ∀ j, i ≤ j → C j = true → actN ops j = k → (clsOf (opN ops j) = .makes ∨ clsOf (opN ops j) = .fills) → False) :
    RelH P ρ (st i).H w ∧ Ext ρ0 (st 0).H w0 ρ (st i).H w := by
  obtain ⟨Hc, h1, h2, h3⟩ := n.heap
  have cls : ∀ j x, exOf ops (opN ops j) (st j) = some x → clsOf (opN ops j) = .makes ∨ clsOf (opN ops j) = .fills := fun j x h => by
    rcases (exOf_cls h).2 with ⟨h, _⟩ | ⟨h, _⟩
    · exact Or.inl h
    · exact Or.inr h
  have hget : ∀ x, Hc.get x = (st i).H.get x := fun x => by
    rw [h1, g.cur_run x hi, hk, n.base i hi hk, curN_cut hi (fun j a b c d e => hout j a c d (cls j x e))]
    exact curN_same fun j a b c => by rw [hin j a b (cls j x c)]
  have hf : ∀ x, (st i).H.next ≤ x → ρ x = none := fun x hx => by
    cases hq : ρ x with
    | none => rfl
    | some l =>
      have hb := g.next_base hi
      rw [n.base i hi hk] at hb
      obtain ⟨j, j1, j2, j3, j4⟩ := n.fresh x (by omega) (by rw [hq]; exact fun e => by cases e)
      have hji : j < i := by
        rcases Nat.lt_or_ge j i with h | h
        · exact h
        · exact (hout j h j1 j2 (Or.inl j3)).elim
      have := g.next_lt j3 j4 hji hi (by omega)
      omega
  exact ⟨h2.congr (fun x o h => by rw [hget]; exact h) hf, h3.congr fun x o h => by rw [hget]; exact h⟩
theorem Inv.full_act (g : Rg P rec ops ms pl S0 m st v) (n : Inv P ops m st v ρ0 w0 C k B ρ w tmps) (t : Turn ops C i) (hi : i ≤ m) (ha : isA ops i = true) : RelH P ρ (st i).H w ∧ Ext ρ0 (st 0).H w0 ρ (st i).H w := by
  have hk := n.turn_act g t hi ha
  refine n.full g hi hk (fun j h1 h2 h3 => t.mask g.plan n.clos (g.plan.made_before (by have := g.mle; omega) h3 ha h1 t.size)) fun j h1 h2 h3 h4 => ?_
  have h5 : i ≠ j := fun e => by
    subst e
    rw [t.out] at h2
    cases h2
  have := act_lt ha (b := j) (by omega)
  omega

/-- Where the temporary goes. -/
def putD (tmps : Array Value) (d : Option Tmp) (u : Value) : Array Value :=
  match d with
  | some d => tmps.setIfInBounds d u
  | none => tmps
theorem putD_get {tmps : Array Value} {d : Option Tmp} {u : Value} (hb : ∀ e, d = some e → e < tmps.size) (e : Tmp) : (putD tmps d u).getD e Go.undef = if d = some e then u else tmps.getD e Go.undef := by
  cases d with
  | none => simp [putD]
  | some d =>
    have := hb d rfl
    unfold putD
    simp only [Array.getD_eq_getD_getElem?, Array.getElem?_setIfInBounds, Option.some.injEq]
    by_cases h : d = e
    · subst h; simp [this]
    · simp [h]
theorem putD_size {tmps : Array Value} {d : Option Tmp} {u : Value} : (putD tmps d u).size = tmps.size := by cases d <;> simp [putD]

/-- One more: what hangs on no memory. -/
theorem Turn.closed (t : Turn ops C i) (hc : Closed ops (fun i => C i = true)) : Closed ops (fun j => addN C i j = true) := fun j hj => by
  rcases addN_iff.1 hj with rfl | hj
  · exact ⟨opN ops j, opN_get t.size, fun e h1 h2 => addN_iff.2 (Or.inr (t.waits e h1 h2))⟩
  · obtain ⟨o, h1, h2⟩ := hc j hj
    exact ⟨o, h1, fun e h3 h4 => addN_iff.2 (Or.inr (h2 e h3 h4))⟩
theorem Inv.add_tmp (g : Rg P rec ops ms pl S0 m st v) (n : Inv P ops m st v ρ0 w0 C k B ρ w tmps) (hi : i < m) {ρ' : Ren} (hle : ρ.le ρ') {u : Value} (hu : RelV ρ' (v i) u) :
    (putD tmps (opN ops i).dst u).size = (st 0).fr.n ∧ ∀ d, RelJ ρ' (valN ops v (st 0).fr.tmps (addN C i) m d) ((putD tmps (opN ops i).dst u).getD d Go.undef) := by
  refine ⟨by rw [putD_size, n.size], fun d => ?_⟩
  have hb := (put_tmps (g.step hi).1).2.1
  rw [g.frame (i := i) (by omega)] at hb
  rw [putD_get (fun e he => by rw [n.size, g.run.start]; exact hb e he), g.plan.valN_add g.mle hi d]
  by_cases h : (opN ops i).dst = some d
  · rw [if_pos h, if_pos h]; exact Or.inr hu
  · rw [if_neg h, if_neg h]; exact (n.tmp d).mono hle
theorem Inv.low_add (n : Inv P ops m st v ρ0 w0 C k B ρ w tmps) (hi : i < m) : ∀ j, addN C i j = true → j < m := fun j hj => by
  rcases addN_iff.1 hj with rfl | hj
  · exact hi
  · exact n.low j hj
theorem Inv.acts_add (n : Inv P ops m st v ρ0 w0 C k B ρ w tmps) (hna : isA ops i = false) : ∀ a, a < m → isA ops a = true → (addN C i a = true ↔ actN ops a < k) := fun a h1 h2 => by
  rw [addN_iff, ← n.acts a h1 h2]
  exact ⟨fun h => h.resolve_left (fun e => by subst e; rw [hna] at h2; cases h2), Or.inr⟩

/-- An operation that leaves memory. -/
theorem Inv.add_calm (g : Rg P rec ops ms pl S0 m st v) (n : Inv P ops m st v ρ0 w0 C k B ρ w tmps) (t : Turn ops C i) (hi : i < m) (hna : isA ops i = false) (hx : exOf ops (opN ops i) (st i) = none) {u : Value} (hu : RelV ρ (v i) u) :
    Inv P ops m st v ρ0 w0 (addN C i) k B ρ w (putD tmps (opN ops i).dst u) := by
  obtain ⟨s1, s2⟩ := n.add_tmp g hi (Ren.le.refl _) hu
  obtain ⟨Hc, h1, h2, h3⟩ := n.heap
  refine ⟨n.low_add hi, t.closed n.clos, n.acts_add hna, n.kle, n.base, n.wf, ⟨Hc, fun x => ?_, h2, h3⟩, fun x a b => ?_, fun j x a b c => ?_, n.glob, s1, s2⟩
  · rw [h1]
    refine curN_same fun j _ _ hj => ?_
    by_cases e : j = i
    · subst e; rw [hx] at hj; cases hj
    · cases hq : C j with
      | true => exact (addN_iff.2 (Or.inr hq)).symm
      | false =>
        cases hq2 : addN C i j with
        | false => rfl
        | true => rcases addN_iff.1 hq2 with h | h <;> simp_all
  · obtain ⟨j, j1, j2⟩ := n.fresh x a b
    exact ⟨j, addN_iff.2 (Or.inr j1), j2⟩
  · rcases addN_iff.1 a with rfl | a
    · rw [hx] at c; cases c
    · exact n.made j x a b c
theorem addN_other {j : Nat} (h : j ≠ i) : addN C i j = C j := by
  cases hq : C j with
  | true => exact addN_iff.2 (Or.inr hq)
  | false =>
    cases hq2 : addN C i j with
    | false => rfl
    | true => rcases addN_iff.1 hq2 with h | h <;> simp_all
/-- Memory with one more made or filled. -/
theorem Inv.cur_add (n : Inv P ops m st v ρ0 w0 C k B ρ w tmps) (hi : i < m) (hk : actN ops i = k) {y : Nat} (hy : exOf ops (opN ops i) (st i) = some y) (hlast : ∀ j, i < j → j < m → C j = true → actN ops j = k → exOf ops (opN ops j) (st j) ≠ some y) (x : Nat) :
    curN ops st B (addN C i) k m x = if x = y then (st (i + 1)).H.get x else curN ops st B C k m x := by
  by_cases e : x = y
  · subst e
    rw [if_pos rfl, curN_cut (n := i + 1) (by omega) (fun j h1 h2 h3 h4 => hlast j (by omega) h2 (by rw [addN_other (by omega)] at h3; exact h3) h4), curN, if_pos ⟨addN_iff.2 (Or.inl rfl), hk, hy⟩]
  · rw [if_neg e]
    refine curN_same fun j _ _ hj => ?_
    by_cases e2 : j = i
    · subst e2; rw [hy] at hj; cases hj; exact absurd rfl e
    · exact addN_other e2
/-- A number that is not made yet is free. -/
theorem Inv.free (g : Rg P rec ops ms pl S0 m st v) (n : Inv P ops m st v ρ0 w0 C k B ρ w tmps) (t : Turn ops C i) (hi : i < m) (hk : actN ops i = k) (hc : clsOf (opN ops i) = .makes) {y : Nat} (hy : exOf ops (opN ops i) (st i) = some y) : ρ y = none := by
  cases hq : ρ y with
  | none => rfl
  | some l =>
    have hb := g.ex_ge hi hy
    rw [n.base i (by omega) hk] at hb
    obtain ⟨j, j1, j2, j3, j4⟩ := n.fresh y hb (by rw [hq]; exact fun e => by cases e)
    have := g.ex_inj (n.low j j1) hi j3 hc j4 hy (by omega)
    subst this
    rw [t.out] at j1
    cases j1
theorem Inv.add_make (g : Rg P rec ops ms pl S0 m st v) (n : Inv P ops m st v ρ0 w0 C k B ρ w tmps) (t : Turn ops C i) (hi : i < m) (hc : clsOf (opN ops i) = .makes) (hw : wantedA ops (st i).fr.tmps (opN ops i) = true) {evc : Operand → Value} (hev : ∀ x a, evR (opN ops i) (st i).fr.tmps x = some a → RelV ρ a (evc x)) :
    ∃ ρ' w' u, (execOp evc (opN ops i)).run P w = .ok (.value u) w' ∧ Inv P ops m st v ρ0 w0 (addN C i) k B ρ' w' (putD tmps (opN ops i).dst u) := by
  have hk := n.turn_made g t hi (Or.inl hc)
  obtain ⟨_, d⟩ := g.step hi
  cases d with
  | idleAct hw' => rw [hw] at hw'; cases hw'
  | idle hw' => rw [hw] at hw'; cases hw'
  | pure _ h => rw [hc] at h; cases h
  | reads _ h => rw [hc] at h; cases h
  | fills _ h => rw [hc] at h; cases h
  | acts _ h => rw [hc] at h; cases h
  | makes _ _ H' hx h2 =>
    have hy : exOf ops (opN ops i) (st i) = some (st i).H.next := by unfold exOf; rw [hw, hc]; rfl
    have hfree := n.free g t hi hk hc hy
    rw [execO_eq (by simp only [hc]; intro e; cases e) (by simp only [hc]; intro e; cases e)] at hx
    obtain ⟨obj, sz, o', u, e1, e2, e3⟩ := makes_rel (ρ := ρ) hev hc hx w
    obtain ⟨Hc, h1, h3, h4⟩ := n.heap
    have hle := Ren.le_add (l := ⟨w.heap.size, sz, Go.undef⟩) hfree
    obtain ⟨r1, r2⟩ := e3 (ρ.add (st i).H.next ⟨w.heap.size, sz, Go.undef⟩) hle (Ren.add_same _ _ _)
    obtain ⟨k1, k2⟩ := h3.pushAt (w' := { w with heap := w.heap.push o' }) (st i).H.next sz hfree rfl ⟨rfl, rfl⟩ r2
    obtain ⟨s1, s2⟩ := n.add_tmp g hi hle r1
    have hH : (st (i + 1)).H = (st i).H.push obj := by rw [h2]; exact e1
    refine ⟨_, _, u, e2, n.low_add hi, t.closed n.clos, n.acts_add (isA_makes hc), n.kle, n.base, n.wf, ⟨_, fun x => ?_, k1, h4.trans k2⟩, fun x a b => ?_, fun j x a b c => ?_, n.glob.mono hle, s1, s2⟩
    · rw [n.cur_add hi hk hy ?_ x]
      · show (Hc.objs.put (st i).H.next obj).get x = _
        rw [Tree.get_put]
        by_cases e : x = (st i).H.next
        · rw [if_pos e, if_pos e, hH, get_push, if_pos e]
        · rw [if_neg e, if_neg e]; exact h1 x
      · intro j a b c d e
        exact n.made j _ c d e hfree
    · by_cases e : x = (st i).H.next
      · exact ⟨i, addN_iff.2 (Or.inl rfl), hk, hc, by rw [e]; exact hy⟩
      · rw [Ren.add_other _ _ e] at b
        obtain ⟨j, j1, j2⟩ := n.fresh x a b
        exact ⟨j, addN_iff.2 (Or.inr j1), j2⟩
    · intro e
      rcases addN_iff.1 a with rfl | a
      · rw [hy] at c
        cases c
        rw [Ren.add_same] at e
        cases e
      · have := n.made j x a b c
        cases hq : ρ x with
        | none => exact this hq
        | some l => rw [hle _ _ hq] at e; cases e
/-- An insertion. -/
theorem Inv.add_fill (g : Rg P rec ops ms pl S0 m st v) (n : Inv P ops m st v ρ0 w0 C k B ρ w tmps) (t : Turn ops C i) (hi : i < m) (hc : clsOf (opN ops i) = .fills) (hw : wantedA ops (st i).fr.tmps (opN ops i) = true) {evc : Operand → Value} (hev : ∀ x a, evR (opN ops i) (st i).fr.tmps x = some a → RelV ρ a (evc x)) :
    ∃ w', (execOp evc (opN ops i)).run P w = .ok .skip w' ∧ Inv P ops m st v ρ0 w0 (addN C i) k B ρ w' (putD tmps (opN ops i).dst Go.undef) := by
  have hk := n.turn_made g t hi (Or.inr hc)
  have hbase := n.base i (Nat.le_of_lt hi) hk
  obtain ⟨_, d⟩ := g.step hi
  cases d with
  | idleAct hw' => rw [hw] at hw'; cases hw'
  | idle hw' => rw [hw] at hw'; cases hw'
  | pure _ h => rw [hc] at h; cases h
  | reads _ h => rw [hc] at h; cases h
  | makes _ h => rw [hc] at h; cases h
  | acts _ h => rw [hc] at h; cases h
  | fills _ _ hn hv H' hx h2 =>
    rw [execO_eq (by simp only [hc]; intro e; cases e) (by simp only [hc]; intro e; cases e)] at hx
    obtain ⟨y, old, new, f1, f2, f3, f4, f5, f6⟩ := fills_rel (ρ := ρ) hc hn hx
    have hy : exOf ops (opN ops i) (st i) = some y := by unfold exOf; rw [hw, hc, cond_true]; exact f1
    have hy' := f5 evc hev
    rw [hbase] at f2
    obtain ⟨Hc, h1, h3, h4⟩ := n.heap
    have hlt : y < (st i).H.next := g.wf_run (Nat.le_of_lt hi) (by rw [hbase]; exact n.wf) y old f3
    have hlast : ∀ j, i < j → j < m → C j = true → actN ops j = k → exOf ops (opN ops j) (st j) ≠ some y := by
      intro j a b c d e
      rcases (exOf_cls e).2 with ⟨q1, q2⟩ | ⟨q1, q2⟩
      · have := g.next_le (i := i) (j := j) (by omega) (by omega) (by omega)
        omega
      · have h5 := t.not_before g.plan n.clos c (g.m_le b)
        rw [g.plan.fill_before hc q1 a (g.m_le b)] at h5
        cases h5
    have hget : Hc.get y = some old := by
      rw [h1, ← f3, g.cur_run y (Nat.le_of_lt hi), hk, hbase, curN_cut (n := i) (Nat.le_of_lt hi)]
      · refine curN_same fun j a b c => ?_
        rcases (exOf_cls c).2 with ⟨q1, q2⟩ | ⟨q1, q2⟩
        · obtain ⟨j', j1, j2, j3, j4⟩ := n.fresh y f2 hy'
          rw [g.ex_inj (by omega) (n.low j' j1) q1 j3 c j4 (by omega)]
          exact j1
        · exact t.mask g.plan n.clos (g.plan.fill_before q1 hc a t.size)
      · intro j a b c d
        rcases Nat.lt_or_ge i j with h | h
        · exact hlast j h b c d
        · have : j = i := by omega
          subst this
          rw [t.out] at c
          cases c
    obtain ⟨w', r1, r2, r3⟩ := f6 w Hc evc h3 hev hget
    obtain ⟨s1, s2⟩ := n.add_tmp g hi (Ren.le.refl _) (u := Go.undef) (by rw [hv]; exact relV_undef ρ)
    have hH : (st (i + 1)).H = (st i).H.put y new := by rw [h2]; exact f4
    refine ⟨w', r1, n.low_add hi, t.closed n.clos, n.acts_add (isA_fills hc), n.kle, n.base, n.wf, ⟨_, fun x => ?_, r2, h4.trans r3⟩, fun x a b => ?_, fun j x a b c => ?_, n.glob, s1, s2⟩
    · rw [n.cur_add hi hk hy hlast x, get_put]
      by_cases e : x = y
      · rw [if_pos e, if_pos e, hH, get_put, if_pos e]
      · rw [if_neg e, if_neg e]; exact h1 x
    · obtain ⟨j, j1, j2⟩ := n.fresh x a b
      exact ⟨j, addN_iff.2 (Or.inr j1), j2⟩
    · rcases addN_iff.1 a with rfl | a
      · rw [hy] at c
        cases c
        exact hy'
      · exact n.made j x a b c
/-- What hangs on no memory, or reads. -/
theorem Inv.run_quiet (g : Rg P rec ops ms pl S0 m st v) (n : Inv P ops m st v ρ0 w0 C k B ρ w tmps) (t : Turn ops C i) (hi : i < m) (hc : clsOf (opN ops i) = .pure ∨ clsOf (opN ops i) = .reads) (hw : wantedA ops (st i).fr.tmps (opN ops i) = true) {evc : Operand → Value} (hev : ∀ x a, evR (opN ops i) (st i).fr.tmps x = some a → RelV ρ a (evc x)) :
    QuietV P ρ w ((execOp evc (opN ops i)).run P w) (v i) := by
  have hB : RelH P ρ ⟨B.objs, (n.heap.choose).next⟩ w := by
    obtain ⟨h1, h2, h3⟩ := n.heap.choose_spec
    refine h2.congr (fun x o hx => ?_) h2.fresh
    have hx : B.get x = some o := hx
    rw [h1, curN_base, hx]
    intro j a b c e
    have h4 := g.ex_ge a e
    rw [n.base j (by omega) c] at h4
    have := n.wf x o hx
    omega
  have key : ∃ H', execO P ⟨B.objs, (n.heap.choose).next⟩ (evR (opN ops i) (st i).fr.tmps) (opN ops i) = some (.value (v i) H') := by
    rcases hc with hc | hc
    · obtain ⟨_, d⟩ := g.step hi
      cases d with
      | idleAct hw' => rw [hw] at hw'; cases hw'
      | idle hw' => rw [hw] at hw'; cases hw'
      | fills _ h => rw [hc] at h; cases h
      | reads _ h => rw [hc] at h; cases h
      | makes _ h => rw [hc] at h; cases h
      | acts _ h => rw [hc] at h; cases h
      | pure _ _ H' hx h2 => exact ⟨_, pureO_any hc hx _⟩
    · have hlo : cntN (isA ops) (fun j => bit (mkN ms i) j) ops.size ≤ k := by
        have h1 : cntN (isA ops) (fun j => bit (mkN ms i) j) ops.size ≤ cntN (isA ops) (fun a => Nat.blt (actN ops a) k) ops.size := cnt_mono fun a a1 a2 a3 => by
          have hC := t.mask g.plan n.clos a3
          exact blt_iff.2 ((n.acts a (n.low a hC) a2).1 hC)
        rw [cnt_below] at h1
        omega
      have hhi : k ≤ cntN (isA ops) (fun j => !bit (mkN ms j) i) ops.size := by
        have h1 : cntN (isA ops) (fun a => Nat.blt (actN ops a) k && Nat.blt a m) ops.size ≤ cntN (isA ops) (fun j => !bit (mkN ms j) i) ops.size := cnt_mono fun a a1 a2 a3 => by
          rw [Bool.and_eq_true] at a3
          have hC := (n.acts a (blt_iff.1 a3.2) a2).2 (blt_iff.1 a3.1)
          rw [t.not_before g.plan n.clos hC a1]
          rfl
        have h2 : cntN (isA ops) (fun a => Nat.blt (actN ops a) k && Nat.blt a m) ops.size = cntN (isA ops) (fun a => Nat.blt (actN ops a) k) m := by
          rw [cnt_le g.mle (fun a a1 _ _ => by
            cases hb : Nat.blt a m with
            | false => simp
            | true => exact absurd (blt_iff.1 hb) (by omega))]
          exact cnt_same fun a a1 _ => by simp [blt_iff.2 a1]
        rw [h2, cnt_below] at h1
        have := n.kle
        omega
      obtain ⟨H', hx⟩ := g.read_at hi hc hw hlo hhi n.kle n.base
      exact ⟨_, readsO_any hc hx _⟩
  obtain ⟨H', hx⟩ := key
  exact quietO_rel hB hev hc hx
/-- Behind an act. -/
theorem Inv.add_act (g : Rg P rec ops ms pl S0 m st v) (n : Inv P ops m st v ρ0 w0 C k B ρ w tmps) (t : Turn ops C i) (hi : i < m) (ha : isA ops i = true) {ρ' : Ren} {w' : World} {H' : AHeap} {u : Value} (hd : Acted P (st i) (st (i + 1)) H') (hh : RelH P ρ' H' w') (he : Ext ρ (st i).H w ρ' H' w') (hu : RelV ρ' (v i) u) :
    Inv P ops m st v ρ0 w0 (addN C i) (k + 1) H' ρ' w' (putD tmps (opN ops i).dst u) := by
  have hk := n.turn_act g t (Nat.le_of_lt hi) ha
  obtain ⟨_, x1⟩ := n.full_act g t (Nat.le_of_lt hi) ha
  obtain ⟨s1, s2⟩ := n.add_tmp g hi he.le hu
  have hs := actN_succ ops i
  rw [ha, cond_true] at hs
  have none_made : ∀ j, addN C i j = true → actN ops j = k + 1 → (clsOf (opN ops j) = .makes ∨ clsOf (opN ops j) = .fills) → False := fun j a b c => by
    rcases addN_iff.1 a with rfl | a
    · omega
    · have := n.later g a c
      omega
  have none_ex : ∀ j x, addN C i j = true → actN ops j = k + 1 → exOf ops (opN ops j) (st j) ≠ some x := fun j x a b c => by
    rcases (exOf_cls c).2 with ⟨h, _⟩ | ⟨h, _⟩
    · exact none_made j a b (Or.inl h)
    · exact none_made j a b (Or.inr h)
  refine ⟨n.low_add hi, t.closed n.clos, fun a h1 h2 => ?_, ?_, fun j h1 h2 => ?_, fun x o hx => ?_, ⟨H', fun x => ?_, hh, x1.trans he⟩, fun x a b => ?_, fun j x a b c => ?_, n.glob.mono he.le, s1, s2⟩
  · rw [addN_iff, n.acts a h1 h2]
    constructor
    · rintro (rfl | h)
      · omega
      · omega
    · intro h
      rcases Nat.lt_trichotomy a i with h3 | h3 | h3
      · have := act_lt h2 h3; exact Or.inr (by omega)
      · exact Or.inl h3
      · have := act_lt ha h3; omega
  · have := actN_mono ops (i := i + 1) (j := m) hi
    omega
  · rw [← hd.base]
    exact g.bases' (by omega) h1 (by omega)
  · obtain ⟨l, h1, _⟩ := hh.obj x o hx
    rcases Nat.lt_or_ge x H'.next with h | h
    · exact h
    · rw [hh.fresh x h] at h1; cases h1
  · rw [curN_base]
    intro j _ a b
    exact none_ex j x a b
  · exact absurd (hh.fresh x a) b
  · exact absurd c (none_ex j x a b)
end
end Go.Am
