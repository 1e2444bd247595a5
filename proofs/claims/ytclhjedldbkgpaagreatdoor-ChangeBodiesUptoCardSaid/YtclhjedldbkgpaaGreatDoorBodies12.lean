/-
  Part 12 of the proof that winch/winchlaw25.ChangeBodies returns true for every two bodies of small bulk: lemmas.
  Conditions: none beyond each theorem's own premises.
  What lies here:
  Regions that draw, last part: in whatever order the machine takes the operations, it comes where the run by numbers comes. Condition: the program follows the rule that lets orders mix.
  Pieces of a frame's run: from a frame's state to another one, calls answered from outside; how a call ends.
  Calls with symbols for what is not known: answers by a list, and what a call does whose run is reckoned with them. Condition: each answer of the list is true.
-/
import Derived.Test.YtclhjedldbkgpaaGreatDoorBodies11
set_option linter.unusedVariables false
set_option linter.unusedSimpArgs false
set_option linter.unusedSectionVars false
namespace Go.Am
variable {P : Program} [Orc P] [OrcOk P] {rec : ARec} {ops : Array Oper} {ms : List Nat} {pl : List RI}

section
variable {S0 : DS} {m : Nat} {st : Nat → DS} {v : Nat → AV} {ρ0 : Ren} {w0 : World} {C : Nat → Bool} {k : Nat} {B : AHeap} {ρ : Ren} {w : World} {tmps : Array Value} {i : Nat}

theorem finish_eq {c : Frame} {l : List Nat} {k0 : List Item} (hi : i < ops.size) (hc : c.todo = .inRegion ops (i :: l) :: k0) (u : Value) :
    c.finish u = { c with todo := .inRegion ops l :: k0, tmps := putD c.tmps (opN ops i).dst u } := by
  unfold Frame.finish
  rw [hc]
  simp [opN_get hi, putD]
  cases (opN ops i).dst <;> rfl
theorem not_defer {o : Oper} (h : isActs (clsOf o) = false) : ∀ x, o.op ≠ .defer x := fun x e => by
  unfold clsOf at h
  rw [e] at h
  cases h

/-- One operation, in its turn. -/
theorem Inv.step (hs : Sound P rec) (g : Rg P rec ops ms pl S0 m st v) (n : Inv P ops m st v ρ0 w0 C k B ρ w tmps) (t : Turn ops C i) (hi : i < m) {c : Frame} (cs : List Frame) {l : List Nat} {k0 : List Item} (hm : c.mode = .run) (hc : c.todo = .inRegion ops (i :: l) :: k0) (ht : c.tmps = tmps) :
    ∃ k' B' ρ' w' tmps', Steps P (lone c cs w) (lone { c with todo := .inRegion ops l :: k0, tmps := tmps' } cs w') ∧ Inv P ops m st v ρ0 w0 (addN C i) k' B' ρ' w' tmps' := by
  have hf : ∀ u, c.finish u = { c with todo := .inRegion ops l :: k0, tmps := putD tmps (opN ops i).dst u } := fun u => by rw [finish_eq t.size hc, ht]
  have hop := opN_get t.size
  have hwant := n.wants g t (Nat.le_of_lt hi) (g.known hi)
  obtain ⟨_, d⟩ := g.step hi
  cases hw : wantedA ops (st i).fr.tmps (opN ops i) with
  | false =>
    have s1 := mv_skipOp (P := P) (cs := cs) (w := w) hm hc (by rw [hop, ht]; simp [hwant, hw])
    rw [hf] at s1
    have hv : v i = .undef := by
      cases d with
      | idleAct _ h => exact h
      | idle _ h => exact h
      | pure h => rw [hw] at h; cases h
      | reads h => rw [hw] at h; cases h
      | makes h => rw [hw] at h; cases h
      | fills h => rw [hw] at h; cases h
      | acts h => rw [hw] at h; cases h
    have hu : RelV ρ (v i) Go.undef := by rw [hv]; exact relV_undef ρ
    cases ha : isA ops i with
    | false => exact ⟨k, B, ρ, w, _, Steps.one s1, n.add_calm g t hi ha (by unfold exOf; rw [hw]; rfl) hu⟩
    | true =>
      have hd : Acted P (st i) (st (i + 1)) (st i).H := by
        cases d with
        | idleAct _ _ _ h => exact h
        | idle _ _ h => simp only at h; unfold isA at ha; rw [ha] at h; cases h
        | pure h => rw [hw] at h; cases h
        | reads h => rw [hw] at h; cases h
        | makes h => rw [hw] at h; cases h
        | fills h => rw [hw] at h; cases h
        | acts h => rw [hw] at h; cases h
      have hh := (n.full_act g t (Nat.le_of_lt hi) ha).1
      exact ⟨k + 1, _, ρ, w, _, Steps.one s1, n.add_act g t hi ha hd hh (Ext.refl _ _ _) hu⟩
  | true =>
    have hat : AtOp c ops i l k0 (opN ops i) := ⟨hm, hc, hop, by rw [ht, hwant]; exact hw⟩
    have hev := n.ev g t (Nat.le_of_lt hi) ht
    cases hk : clsOf (opN ops i) with
    | pure =>
      obtain ⟨u, r1, r2⟩ := n.run_quiet g t hi (Or.inl hk) hw hev
      have s1 := mv_value (cs := cs) hat (Or.inr (not_defer (by rw [hk]; rfl))) r1
      rw [hf] at s1
      exact ⟨k, B, ρ, w, _, Steps.one s1, n.add_calm g t hi (by unfold isA; rw [hk]; rfl) (by unfold exOf; rw [hw, hk]; rfl) r2⟩
    | reads =>
      obtain ⟨u, r1, r2⟩ := n.run_quiet g t hi (Or.inr hk) hw hev
      have s1 := mv_value (cs := cs) hat (Or.inr (not_defer (by rw [hk]; rfl))) r1
      rw [hf] at s1
      exact ⟨k, B, ρ, w, _, Steps.one s1, n.add_calm g t hi (by unfold isA; rw [hk]; rfl) (by unfold exOf; rw [hw, hk]; rfl) r2⟩
    | makes =>
      obtain ⟨ρ', w', u, r1, r2⟩ := n.add_make g t hi hk hw hev
      have s1 := mv_value (cs := cs) hat (Or.inr (not_defer (by rw [hk]; rfl))) r1
      rw [hf] at s1
      exact ⟨k, B, ρ', w', _, Steps.one s1, r2⟩
    | fills =>
      obtain ⟨w', r1, r2⟩ := n.add_fill g t hi hk hw hev
      have s1 := mv_skipped (cs := cs) hat (Or.inr (not_defer (by rw [hk]; rfl))) r1
      rw [hf] at s1
      exact ⟨k, B, ρ, w', _, Steps.one s1, r2⟩
    | acts =>
      have ha : isA ops i = true := by unfold isA; rw [hk]; rfl
      have hh := (n.full_act g t (Nat.le_of_lt hi) ha).1
      cases d with
      | idleAct h => rw [hw] at h; cases h
      | idle h => rw [hw] at h; cases h
      | pure _ h => rw [hk] at h; cases h
      | reads _ h => rw [hk] at h; cases h
      | makes _ h => rw [hk] at h; cases h
      | fills _ h => rw [hk] at h; cases h
      | acts _ _ H' hx hd =>
        obtain ⟨ρ', u, w', s1, r1, r2, r3⟩ := hx.does hs (cs := cs) n.glob hat hh hev
        rw [hf] at s1
        exact ⟨k + 1, H', ρ', w', _, s1, n.add_act g t hi ha hd r2 r3 r1⟩

/-- The operation that raises, in its turn. -/
theorem Inv.raises (hs : Sound P rec) (g : Rg P rec ops ms pl S0 m st v) (n : Inv P ops m st v ρ0 w0 C k B ρ w tmps) (t : Turn ops C m) {r : RI} {ch : List (AV × Bool)} {H' : AHeap} (hr : RaisesAt P rec ops pl m (st m) r ch H') {c : Frame} (cs : List Frame) {l : List Nat} {k0 : List Item} (hm : c.mode = .run) (hc : c.todo = .inRegion ops (m :: l) :: k0) (ht : c.tmps = tmps) :
    ∃ ρ' l' w', Steps P (lone c cs w) (lone (c.raise l') cs w') ∧ RelChain ρ' ch l' ∧ RelH P ρ' H' w' ∧ Ext ρ0 (st 0).H w0 ρ' H' w' ∧ ρ.le ρ' := by
  have hri := (g.plan.ri.2 m t.size).1
  rw [hr.here] at hri
  cases hri
  have hk : clsOf (opN ops m) = .acts := hr.cls
  have hat : AtOp c ops m l k0 (opN ops m) := ⟨hm, hc, opN_get t.size, by rw [ht, n.wants g t (Nat.le_refl _) hr.known]; exact hr.wanted⟩
  have hev := n.ev g t (Nat.le_refl _) ht
  obtain ⟨hh, he⟩ := n.full_act g t (Nat.le_refl _) (by unfold isA; rw [hk]; rfl)
  obtain ⟨ρ', l', w', s1, r1, r2, r3⟩ := hr.does.does hs (cs := cs) n.glob hat hh hev
  exact ⟨ρ', l', w', s1, r1, r2, he.trans r3, r3.le⟩
/-- Behind the operation that raises none has its turn. -/
theorem Inv.not_behind (g : Rg P rec ops ms pl S0 m st v) (n : Inv P ops m st v ρ0 w0 C k B ρ w tmps) (t : Turn ops C i) {r : RI} {ch : List (AV × Bool)} {H' : AHeap} (hr : RaisesAt P rec ops pl m (st m) r ch H') : i ≤ m := by
  rcases Nat.lt_or_ge m i with h | h
  case inr => exact h
  exfalso
  have hms : m < ops.size := by
    have := (List.getElem?_eq_some_iff.1 hr.here).1
    rw [g.plan.ri.1] at this
    exact this
  have hri := (g.plan.ri.2 m hms).1
  rw [hr.here] at hri
  cases hri
  have hk : isA ops m = true := by unfold isA; rw [show clsOf (opN ops m) = .acts from hr.cls]; rfl
  have hlater : ∀ {l : List RI} {s j : Nat} {x : RI}, allLater s l = true → l[j]? = some x → s < x.lo := by
    intro l
    induction l with
    | nil => intro s j x _ hx; simp at hx
    | cons y l ih =>
      intro s j x ha hx
      simp only [allLater, Bool.and_eq_true] at ha
      cases j with
      | zero => simp only [List.getElem?_cons_zero, Option.some.injEq] at hx; subst hx; exact blt_iff.1 ha.1
      | succ j => exact ih ha.2 (by simpa using hx)
  have h1 := hlater hr.later (j := i - (m + 1)) (x := ⟨opN ops i, clsOf (opN ops i), countBefore (mkN ms i) (actMasks ops.toList ms 0), countFree i (actMasks ops.toList ms 0)⟩) (by
    rw [List.getElem?_drop, show m + 1 + (i - (m + 1)) = i by omega]
    exact (g.plan.ri.2 i t.size).1)
  simp only at h1
  rw [g.plan.lo, g.stages (Nat.le_refl _)] at h1
  have h2 : cntN (isA ops) (fun j => bit (mkN ms i) j) ops.size ≤ cntN (isA ops) (fun a => Nat.blt a m) ops.size := cnt_mono fun a a1 a2 a3 => by
    refine blt_iff.2 ?_
    rcases Nat.lt_trichotomy a m with h3 | h3 | h3
    · exact h3
    · subst h3
      have := n.low _ (t.mask g.plan n.clos a3)
      omega
    · have h4 := g.plan.act_before hk a2 h3 a1
      have := n.low _ (t.mask g.plan n.clos (g.plan.bit_trans t.size a3 h4))
      omega
  have h3 : cntN (isA ops) (fun a => Nat.blt a m) ops.size = actN ops m := by
    rw [cnt_le (i := m) (by omega) (fun a a1 _ _ => by
      cases hb : Nat.blt a m with
      | false => rfl
      | true => exact absurd (blt_iff.1 hb) (by omega))]
    exact cnt_same fun a a1 _ => by simp [blt_iff.2 a1]
  omega

/-- All is done. -/
theorem Inv.all (g : Rg P rec ops ms pl S0 m st v) (n : Inv P ops m st v ρ0 w0 C k B ρ w tmps) (hm : m = ops.size) (hC : ∀ j, j < ops.size → C j = true) :
    RelH P ρ (st m).H w ∧ Ext ρ0 (st 0).H w0 ρ (st m).H w ∧ RelT ρ S0.fr.n (st m).fr.tmps tmps := by
  have hk : actN ops m = k := by
    have h1 := n.turn_le (Nat.le_refl _) fun a h1 _ => hC a (by omega)
    have := n.kle
    omega
  obtain ⟨h1, h2⟩ := n.full g (Nat.le_refl _) hk (fun j a _ _ => hC j (by omega)) (fun j a b _ _ => by have := n.low j b; omega)
  refine ⟨h1, h2, ⟨by rw [n.size, g.run.start], fun d => ?_⟩⟩
  rw [g.tmps d (Nat.le_refl _)]
  have h3 := n.tmp d
  rw [g.run.start] at h3
  have : ∀ i, i ≤ m → valN ops v S0.fr.tmps C i d = valN ops v S0.fr.tmps (fun _ => true) i d := by
    intro i
    induction i with
    | zero => intro _; rfl
    | succ i ih =>
      intro hi
      rw [valN, valN, ih (by omega), hC i (by omega)]
  rw [← this m (Nat.le_refl _)]
  exact h3
end

/- The machine's order. -/
def inC (listed : Array Bool) (i : Nat) : Bool := listed.getD i false
theorem inC_set {listed : Array Bool} {i : Nat} (h : i < listed.size) : inC (listed.setIfInBounds i true) = addN (inC listed) i := by
  funext j
  unfold inC addN
  simp only [Array.getD_eq_getD_getElem?, Array.getElem?_setIfInBounds]
  by_cases e : i = j
  · subst e; simp [h]
  · have : Nat.beq j i = false := Tree.beq_false (fun e' => e e'.symm)
    simp [e, this]
theorem ready_turn {listed : Array Bool} (hsz : listed.size = ops.size) {i : Nat} (h : i ∈ Region.ready .any ops listed) : Turn ops (inC listed) i := by
  unfold Region.ready at h
  obtain ⟨h1, h2⟩ := List.mem_filter.1 h
  have hi : i < ops.size := by simpa using h1
  rw [Bool.and_eq_true, opN_get hi] at h2
  obtain ⟨h3, h4⟩ := h2
  refine ⟨hi, ?_, fun e he hb => ?_⟩
  · unfold inC
    simp only [Array.getD_eq_getD_getElem?] at h3 ⊢
    rw [show listed[i]? = some (listed[i]'(by omega)) from Array.getElem?_eq_getElem _] at h3 ⊢
    simpa using h3
  · simp only [Option.map_some, Option.getD_some] at h4
    rw [Array.all_eq_true'] at h4
    have := h4 e (by simpa using he)
    rw [hb] at this
    simpa [inC] using this
theorem ready_none (p : Planned ops ms pl) {listed : Array Bool} (hsz : listed.size = ops.size) (h : Region.ready .any ops listed = []) : ∀ i, i < ops.size → inC listed i = true := by
  intro i
  induction i using Nat.strongRecOn with
  | _ i ih =>
    intro hi
    cases hq : inC listed i with
    | true => rfl
    | false =>
      exfalso
      have hmem : i ∈ Region.ready .any ops listed := by
        unfold Region.ready
        refine List.mem_filter.2 ⟨by simpa using hi, ?_⟩
        rw [Bool.and_eq_true, opN_get hi]
        constructor
        · unfold inC at hq
          simp only [Array.getD_eq_getD_getElem?] at hq ⊢
          rw [show listed[i]? = some (listed[i]'(by omega)) from Array.getElem?_eq_getElem _] at hq ⊢
          simpa using hq
        · simp only [Option.map_some, Option.getD_some]
          rw [Array.all_eq_true']
          intro e he
          cases hb : Region.binds .any e with
          | false => rfl
          | true =>
            obtain ⟨_, _, h3⟩ := befores_spec p.bef
            obtain ⟨m', q1, q2⟩ := h3 i (opN ops i) (by rw [Array.getElem?_toList]; exact opN_get hi)
            simp only [List.length_nil, Nat.zero_add] at q1 q2
            obtain ⟨_, b', f1, _⟩ := (predMask_spec q2).2 e (by simpa using he) hb
            have hlt : e.on < i := by
              have := (List.getElem?_eq_some_iff.1 f1).1
              simp at this
              omega
            have := ih e.on hlt (by omega)
            simpa [inC] using this
      rw [h] at hmem
      cases hmem
theorem cnt_set {C : Nat → Bool} {i : Nat} (h : C i = false) : ∀ {n : Nat}, i < n → cntN (fun _ => true) (addN C i) n = cntN (fun _ => true) C n + 1
  | 0, hi => absurd hi (Nat.not_lt_zero _)
  | n + 1, hi => by
    rw [cntN, cntN]
    by_cases e : i = n
    · subst e
      have h1 : cntN (fun _ => true) (addN C i) i = cntN (fun _ => true) C i := cnt_same fun a ha _ => addN_other (by omega)
      rw [h1, show addN C i i = true from addN_iff.2 (Or.inl rfl), h]
      simp
    · rw [cnt_set h (n := n) (by omega), addN_other (fun e' => e e'.symm)]
      omega
theorem cnt_all : ∀ n, cntN (fun _ => true) (fun _ => true) n = n
  | 0 => rfl
  | n + 1 => by rw [cntN, cnt_all n]; rfl

section
variable {S0 : DS} {m : Nat} {st : Nat → DS} {v : Nat → AV} {ρ0 : Ren} {w0 : World}
/-- In whatever order: to the end, or to the operation that raises. -/
theorem order_runs (hs : Sound P rec) (g : Rg P rec ops ms pl S0 m st v) {fr' : AFrame} {H' : AHeap} (hend : (m = pl.length ∧ fr' = (st m).fr ∧ H' = (st m).H) ∨ (∃ r ch, RaisesAt P rec ops pl m (st m) r ch H' ∧ fr' = (st m).fr.raise ch)) (cs : List Frame) {k0 : List Item} :
    ∀ (fuel t : Nat) (listed : Array Bool) (k : Nat) (B : AHeap) (ρ : Ren) (w : World) (c : Frame), listed.size = ops.size → ops.size ≤ cntN (fun _ => true) (inC listed) ops.size + fuel → c.mode = .run → c.todo = .inRegion ops (Region.linearise.go .any ops fuel t listed []) :: k0 →
      Inv P ops m st v ρ0 w0 (inC listed) k B ρ w c.tmps →
      ∃ ρ' w' c', Steps P (lone c cs w) (lone c' cs w') ∧ RelH P ρ' H' w' ∧ Ext ρ0 (st 0).H w0 ρ' H' w' ∧
        ((∃ tmps', c' = { c with todo := k0, tmps := tmps' } ∧ RelT ρ' S0.fr.n (st m).fr.tmps tmps' ∧ fr' = (st m).fr) ∨
          (∃ ch l todo' tmps', c' = ({ c with todo := todo', tmps := tmps' } : Frame).raise l ∧ RelChain ρ' ch l ∧ (st m).fr.defers = [] ∧ fr' = (st m).fr.raise ch)) := by
  have fin : ∀ (listed : Array Bool) (k : Nat) (B : AHeap) (ρ : Ren) (w : World) (c : Frame), (∀ j, j < ops.size → inC listed j = true) → c.mode = .run → c.todo = .inRegion ops [] :: k0 → Inv P ops m st v ρ0 w0 (inC listed) k B ρ w c.tmps →
      ∃ ρ' w' c', Steps P (lone c cs w) (lone c' cs w') ∧ RelH P ρ' H' w' ∧ Ext ρ0 (st 0).H w0 ρ' H' w' ∧
        ((∃ tmps', c' = { c with todo := k0, tmps := tmps' } ∧ RelT ρ' S0.fr.n (st m).fr.tmps tmps' ∧ fr' = (st m).fr) ∨
          (∃ ch l todo' tmps', c' = ({ c with todo := todo', tmps := tmps' } : Frame).raise l ∧ RelChain ρ' ch l ∧ (st m).fr.defers = [] ∧ fr' = (st m).fr.raise ch)) := by
    intro listed k B ρ w c hall hm hc n
    rcases hend with ⟨h1, h2, h3⟩ | ⟨r, ch, hr, h2⟩
    · obtain ⟨a1, a2, a3⟩ := n.all g (by rw [h1, g.plan.ri.1]) hall
      rw [h3]
      exact ⟨ρ, w, _, Steps.one (mv_regionEnd hm hc), a1, a2, Or.inl ⟨c.tmps, rfl, a3, h2⟩⟩
    · have hms : m < ops.size := by
        have := (List.getElem?_eq_some_iff.1 hr.here).1
        rw [g.plan.ri.1] at this
        exact this
      have := n.low m (hall m hms)
      omega
  intro fuel
  induction fuel with
  | zero =>
    intro t listed k B ρ w c hsz hcnt hm hc n
    have hall := cnt_eqv (sel := fun _ => true) (q := inC listed) (q' := fun _ => true) (n := ops.size) (fun _ _ _ _ => rfl) (by
      have h1 := cnt_all ops.size
      have h2 : cntN (fun _ => true) (inC listed) ops.size ≤ cntN (fun _ => true) (fun _ => true) ops.size := cnt_mono fun _ _ _ _ => rfl
      omega)
    exact fin listed k B ρ w c (fun j hj => hall j hj rfl rfl) hm (by simpa [Region.linearise.go] using hc) n
  | succ fuel ih =>
    intro t listed k B ρ w c hsz hcnt hm hc n
    simp only [Region.linearise.go] at hc
    change c.todo = Item.inRegion ops (match (Region.ready .any ops listed)[t % (Region.ready .any ops listed).length]? with
      | some i => Region.linearise.go .any ops fuel (t / (Region.ready .any ops listed).length) (listed.setIfInBounds i true) [i]
      | none => [].reverse) :: k0 at hc
    cases hi : (Region.ready .any ops listed)[t % (Region.ready .any ops listed).length]? with
    | none =>
      rw [hi] at hc
      have hnil : Region.ready .any ops listed = [] := by
        cases hr : Region.ready .any ops listed with
        | nil => rfl
        | cons x xs =>
          rw [hr] at hi
          have hlt : t % (x :: xs).length < (x :: xs).length := Nat.mod_lt _ (by simp)
          simp at hi
          simp at hlt
          omega
      exact fin listed k B ρ w c (ready_none g.plan hsz hnil) hm (by simpa using hc) n
    | some i =>
      rw [hi] at hc
      simp only [linearise_go_acc .any ops fuel _ _ [i], List.reverse_singleton, List.singleton_append] at hc
      have tn := ready_turn hsz (List.mem_of_getElem? hi)
      by_cases him : i < m
      · obtain ⟨k', B', ρ', w', tmps', s1, n'⟩ := n.step hs g tn him cs hm hc rfl
        rw [← inC_set (by rw [hsz]; exact tn.size)] at n'
        obtain ⟨ρ2, w2, c2, s2, q1, q2, q3⟩ := ih _ _ k' B' ρ' w' { c with todo := .inRegion ops _ :: k0, tmps := tmps' } (by simp [hsz]) (by
          rw [inC_set (by rw [hsz]; exact tn.size), cnt_set tn.out tn.size]
          omega) hm rfl n'
        refine ⟨ρ2, w2, c2, s1.trans s2, q1, q2, ?_⟩
        rcases q3 with ⟨a, b, d⟩ | ⟨a, b, d, e, f⟩
        · exact Or.inl ⟨a, b, d⟩
        · exact Or.inr ⟨a, b, d, e, f⟩
      · rcases hend with ⟨h1, h2, h3⟩ | ⟨r, ch, hr, h2⟩
        · rw [g.plan.ri.1] at h1
          have := tn.size
          omega
        · have h3 := n.not_behind g tn hr
          have : i = m := by omega
          subst this
          obtain ⟨ρ', l', w', s1, r1, r2, r3, r4⟩ := n.raises hs g tn hr cs hm hc rfl
          exact ⟨ρ', w', _, s1, r2, r3, Or.inr ⟨ch, l', c.todo, c.tmps, rfl, r1, hr.plain, h2⟩⟩
end

theorem draw_sound (hmix : P.follows .mixedOrders = true) (hs : Sound P rec) : DrawSound P rec := by
  intro ops pl up fr H up' fr' H' hp hd hm ρ w c cs id stt
  obtain ⟨ms, pp⟩ := plan_spec hp
  obtain ⟨rfl, m, st, v, run, hle, hend⟩ := drawnA_run hd
  have g : Rg P rec ops ms pl ⟨0, H, [], [], fr, H⟩ m st v := ⟨pp, run, by rw [← pp.ri.1]; exact hle, rfl, rfl, rfl⟩
  have h0 := stt.frame.todo hm
  simp only [RelItems, RelItem] at h0
  obtain ⟨x, k0, e1, rfl, e3⟩ := h0
  have hcm := stt.frame.mode
  simp only [hm, RelMode] at hcm
  have hT := stt.frame.tmps (Dead.not hm)
  have s1 := mv_draw (P := P) (cs := cs) (w := w) hcm e1
  have hst0 : (st 0).H = H := by rw [run.start]
  have hst0b : (st 0).base = H := by rw [run.start]
  have hst0f : (st 0).fr = fr := by rw [run.start]
  have hw : RelH P ρ H { w with drawn := w.drawn + 1 } := stt.heap.same rfl ⟨rfl, rfl⟩
  have hwf : ∀ x o, H.get x = some o → x < H.next := fun x o hx => by
    obtain ⟨l, h1, _⟩ := hw.obj x o hx
    rcases Nat.lt_or_ge x H.next with h | h
    · exact h
    · rw [hw.fresh x h] at h1; cases h1
  have hempty : ∀ j, inC (Array.replicate ops.size false) j = false := fun j => by
    unfold inC
    rw [Array.getD_eq_getD_getElem?, Array.getElem?_replicate]
    split <;> rfl
  have n0 : Inv P ops m st v ρ w (inC (Array.replicate ops.size false)) 0 H ρ { w with drawn := w.drawn + 1 } c.tmps := by
    refine ⟨fun j hj => ?_, fun j hj => ?_, fun a h1 h2 => ?_, Nat.zero_le _, fun j h1 h2 => ?_, hwf, ⟨H, fun x => ?_, hw, ?_⟩, fun x a b => absurd (hw.fresh x a) b, fun j x a => ?_, stt.glob, by rw [hst0f]; exact hT.size, fun d => ?_⟩
    · rw [hempty] at hj; cases hj
    · have hj : inC (Array.replicate ops.size false) j = true := hj
      rw [hempty] at hj; cases hj
    · rw [hempty]
      constructor
      · intro h; cases h
      · intro h; omega
    · rw [← hst0b]
      exact g.bases' (Nat.zero_le _) h1 (by rw [h2]; rfl)
    · rw [curN_base]
      intro j _ h
      rw [hempty] at h
      cases h
    · rw [hst0]; exact Ext.same rfl ⟨rfl, rfl⟩
    · rw [hempty] at a; cases a
    · rw [valN_none]
      · rw [hst0f]; exact hT.val d
      · intro j _ h
        rw [hempty] at h
        cases h
  obtain ⟨ρ', w', c', s2, q1, q2, q3⟩ := order_runs hs g hend cs (k0 := k0) ops.size (w.tape w.drawn (.order c.fn id)) (Array.replicate ops.size false) 0 H ρ { w with drawn := w.drawn + 1 }
    { c with todo := .inRegion ops (Region.schedule (P.follows .mixedOrders) ops (w.tape w.drawn (.order c.fn id))) :: k0 } (by simp) (by omega) hcm (by simp [Region.schedule, hmix, Region.linearise]) n0
  rw [hst0] at q2
  have hfr : (st m).fr = { fr with tmps := (st m).fr.tmps } := g.frame (Nat.le_refl _)
  rcases q3 with ⟨tmps', rfl, t1, rfl⟩ | ⟨ch, l, todo', tmps', rfl, r1, r2, rfl⟩
  · refine ⟨ρ', w', _, cs, Steps.head s1 s2, q2, ⟨q1, stt.glob.mono q2.le, ?_, stt.up.mono q2.le⟩, SameUp.refl stt.up, rfl, rfl, rfl⟩
    have f0 := stt.frame.mono q2.le
    rw [hfr]
    exact ⟨f0.fn, f0.has, fun _ => t1, fun _ => e3.mono q2.le, f0.defers, f0.mode, f0.round⟩
  · have hrm : ∀ (todo : List Item) (tmps : Array Value), ({ c with todo := todo, tmps := tmps } : Frame).raise l = { c with todo := todo, tmps := tmps, mode := .panicking l } := fun todo tmps => by
      unfold Frame.raise
      rw [hcm]
    have har : (st m).fr.raise ch = { (st m).fr with mode := .panicking ch } := by
      unfold AFrame.raise
      rw [hfr]
      simp only [hm]
    rw [hrm] at s2
    refine ⟨ρ', w', _, cs, Steps.head s1 s2, q2, ⟨q1, stt.glob.mono q2.le, ?_, stt.up.mono q2.le⟩, SameUp.refl stt.up, rfl, rfl, rfl⟩
    have f0 := stt.frame.mono q2.le
    rw [har, hfr]
    rw [hfr] at r2
    exact ⟨f0.fn, f0.has, fun hdd => absurd ⟨⟨ch, rfl⟩, r2⟩ hdd, (fun e => by cases e), f0.defers, ⟨l, rfl, r1⟩, f0.round⟩
end Go.Am
set_option linter.unusedSectionVars false
namespace Go.Am

/-- Calls that no answer meets are run. -/
def recK (P : Program) [Orc P] : ARec := runF P 20000
/-- One move of a frame that runs; none: it stands at a loop's head, at its end, or at what is not known. -/
def move (P : Program) [Orc P] (fr : AFrame) (H : AHeap) : Option (AFrame × AHeap) :=
  match fr.todo with
  | [] => none
  | item :: k =>
    match item with
    | .inBlock _ => some ({ fr with todo := k }, H)
    | .inScope _ => some ({ fr with todo := k }, H)
    | .inLoop _ => none
    | .beginRound => none
    | .endRangeFunc _ => none
    | .inRegion ops rest => match rest with
      | [] => some ({ fr with todo := k }, H)
      | o :: os =>
        bif guardOk ops fr.tmps o then
        (bif wantedA ops fr.tmps o then
          match operA P (recK P) .no { fr with todo := .inRegion ops os :: k } H o with
          | some (.no, fr', H') => match fr'.mode with
            | .run => some (fr', H')
            | _ => none
          | _ => none
        else match ({ fr with todo := .inRegion ops os :: k } : AFrame).put o.dst .undef with
          | some fr' => some (fr', H)
          | none => none)
        else none
    | .code c =>
      match c with
      | .skip => some ({ fr with todo := k }, H)
      | .label _ => some ({ fr with todo := k }, H)
      | .seq a b => some ({ fr with todo := .code a :: .code b :: k }, H)
      | .cond x a b => match evA fr.tmps x with
        | some (.bool true) => some ({ fr with todo := .code a :: k }, H)
        | some (.bool false) => some ({ fr with todo := .code b :: k }, H)
        | _ => none
      | .block id body => some ({ fr with todo := .code body :: .inBlock id :: k }, H)
      | .scope body => some ({ fr with todo := .code body :: .inScope body :: k }, H)
      | .exit id => match exitToA id k with
        | some k' => some ({ fr with todo := k' }, H)
        | none => none
      | .region _ ops false => some ({ fr with todo := .inRegion ops ops.toList :: k }, H)
      | .region _ ops true => match plan ops with
        | none => none
        | some pl => match drawnA P (recK P) .no ops pl ⟨0, H, [], [], { fr with todo := k }, H⟩ with
          | some (.no, fr', H') => match fr'.mode with
            | .run => some (fr', H')
            | _ => none
          | _ => none
      | _ => none
/-- Moves, as far as they go. -/
def seg (P : Program) [Orc P] : Nat → AFrame → AHeap → AFrame × AHeap
  | 0, fr, H => (fr, H)
  | n + 1, fr, H => match move P fr H with
    | some (fr', H') => match fr'.defers with
      | [] => bif Nat.beq fr'.n fr.n then seg P n fr' H' else (fr, H)
      | _ :: _ => (fr, H)
    | none => (fr, H)

section
variable {P : Program} [Orc P] [OrcOk P] {ρ : Ren} {H : AHeap} {w : World} {fr fr' : AFrame} {H' : AHeap} {c : Frame} {cs : List Frame}
theorem range_ops (ops : Array Oper) : (List.range ops.size).map (ops[·]?) = ops.toList.map some := by
  apply List.ext_getElem?
  intro i
  simp only [List.getElem?_map, List.getElem?_range, Array.getElem?_toList]
  by_cases hi : i < ops.size
  · simp [hi]
  · simp [hi]
theorem recK_sound (hmix : P.follows .mixedOrders = true) : Sound P (recK P) := runF_sound (fun _ hs => draw_sound hmix hs) _
theorem Goes.refl (st : St P ρ H w .no fr c cs) : Goes P ρ H w c cs .no fr H :=
  ⟨ρ, w, c, cs, Steps.refl _ _, Ext.refl _ _ _, st, SameUp.refl st.up, rfl, rfl, rfl⟩
theorem move_goes (hmix : P.follows .mixedOrders = true) (st : St P ρ H w .no fr c cs) (hm : fr.mode = .run) (h : move P fr H = some (fr', H')) : Goes P ρ H w c cs .no fr' H' ∧ fr'.mode = .run := by
  have hcm := st.frame.mode
  simp only [hm, RelMode] at hcm
  have htodo := st.frame.todo hm
  unfold move at h
  cases hti : fr.todo with
  | nil => rw [hti] at h; cases h
  | cons item k =>
    rw [hti] at h htodo
    simp only [RelItems] at htodo
    obtain ⟨x, xs, hct, hx, hxs⟩ := htodo
    cases item with
    | inBlock id =>
      simp only [RelItem] at hx
      subst hx
      cases h
      exact ⟨st.goTodo (mv_inBlock hcm hct) hxs, hm⟩
    | inScope b =>
      simp only [RelItem] at hx
      subst hx
      cases h
      exact ⟨st.goTodo (mv_inScope hcm hct) hxs, hm⟩
    | inLoop b => cases h
    | beginRound => cases h
    | endRangeFunc l => cases h
    | inRegion ops rest =>
      cases rest with
      | nil =>
        simp only [RelItem] at hx
        obtain ⟨l, rfl, hl⟩ := hx
        have : l = [] := by cases l with
          | nil => rfl
          | cons a b => cases hl
        subst this
        cases h
        exact ⟨st.goTodo (mv_regionEnd hcm hct) hxs, hm⟩
      | cons o os =>
        have st' : St P ρ H w .no { ({ fr with todo := .inRegion ops os :: k } : AFrame) with todo := .inRegion ops (o :: os) :: k } c cs := by
          have e : ({ ({ fr with todo := .inRegion ops os :: k } : AFrame) with todo := .inRegion ops (o :: os) :: k } : AFrame) = fr := by rw [← hti]
          rw [e]; exact st
        simp only at h
        obtain ⟨hgd, h⟩ := cond_some h rfl
        cases hwt : wantedA ops fr.tmps o with
        | true =>
          rw [hwt, cond_true] at h
          split at h
          case h_2 => cases h
          rename_i fr1 H1 ho
          split at h
          case h_2 => cases h
          rename_i hrun
          cases h
          exact ⟨operA_goes (recK_sound hmix) ho st' hm rfl hgd hwt, hrun⟩
        | false =>
          rw [hwt, cond_false] at h
          split at h
          case h_2 => cases h
          rename_i fr1 hp
          cases h
          obtain ⟨i, l, kk, m1, m2, m3, m4, m5⟩ := stand st' hm
          have s1 := mv_skipOp (P := P) (cs := cs) (w := w) m1 m2 (by rw [m3]; simp only [Option.map_some, Option.getD_some]; rw [wanted_eq (st.frame.tmps (Dead.not hm)) _ _ hgd]; exact hwt)
          obtain ⟨f1, f2, f3, f4, f5, f6⟩ := fin_rel st'.frame hm rfl m2 m3 m4 (relV_undef ρ) hp
          exact ⟨⟨ρ, w, _, cs, Steps.one s1, Ext.refl _ _ _, ⟨st.heap, st.glob, f1, f3 ▸ st.up⟩, SameUp.refl st.up, f2, f3, f4⟩, f5⟩
    | code cd =>
      simp only [RelItem] at hx
      subst hx
      cases cd with
      | skip => cases h; exact ⟨st.goTodo (mv_skip hcm hct) hxs, hm⟩
      | label l => cases h; exact ⟨st.goTodo (mv_label hcm hct) hxs, hm⟩
      | seq a b => cases h; exact ⟨st.goTodo (mv_seq hcm hct) (by simp only [RelItems, RelItem]; exact ⟨_, _, rfl, rfl, _, _, rfl, rfl, hxs⟩), hm⟩
      | block id b => cases h; exact ⟨st.goTodo (mv_block hcm hct) (by simp only [RelItems, RelItem]; exact ⟨_, _, rfl, rfl, _, _, rfl, rfl, hxs⟩), hm⟩
      | scope b => cases h; exact ⟨st.goTodo (mv_scope hcm hct) (by simp only [RelItems, RelItem]; exact ⟨_, _, rfl, rfl, _, _, rfl, rfl, hxs⟩), hm⟩
      | cond y a b =>
        simp only at h
        split at h
        · rename_i hv
          cases h
          have rv := evA_rel (c := c) st.glob (st.frame.tmps (Dead.not hm)) _ _ hv
          simp only [RelV] at rv
          exact ⟨st.goTodo (mv_cond hcm hct rv) (by simp only [RelItems, RelItem]; exact ⟨_, _, rfl, rfl, hxs⟩), hm⟩
        · rename_i hv
          cases h
          have rv := evA_rel (c := c) st.glob (st.frame.tmps (Dead.not hm)) _ _ hv
          simp only [RelV] at rv
          exact ⟨st.goTodo (mv_cond hcm hct rv) (by simp only [RelItems, RelItem]; exact ⟨_, _, rfl, rfl, hxs⟩), hm⟩
        · cases h
      | exit id =>
        simp only at h
        split at h
        case h_2 => cases h
        rename_i k' hk
        cases h
        obtain ⟨k2, e1, e2⟩ := exitTo_some hxs hk
        exact ⟨st.goTodo (mv_exit hcm hct e1) e2, hm⟩
      | region id ops draw =>
        cases draw with
        | false =>
          cases h
          exact ⟨st.goTodo (mv_region hcm hct) (by simp only [RelItems, RelItem]; exact ⟨_, _, rfl, ⟨_, rfl, range_ops ops⟩, hxs⟩), hm⟩
        | true =>
          simp only at h
          split at h
          case h_1 => cases h
          rename_i pl hp
          split at h
          case h_2 => cases h
          rename_i fr1 H1 hd
          split at h
          case h_2 => cases h
          rename_i hrun
          cases h
          refine ⟨draw_sound hmix (recK_sound hmix) ops pl .no { fr with todo := k } H _ _ _ hp hd hm ρ w c cs id ?_, hrun⟩
          have e : ({ ({ fr with todo := k } : AFrame) with todo := .code (.region id ops true) :: k } : AFrame) = fr := by rw [← hti]
          rw [show ({ ({ fr with todo := k } : AFrame) with todo := .code (.region id ops true) :: ({ fr with todo := k } : AFrame).todo } : AFrame) = fr from e]
          exact st
      | _ => cases h
theorem seg_goes (hmix : P.follows .mixedOrders = true) : ∀ (n : Nat) {ρ : Ren} {H : AHeap} {w : World} {fr : AFrame} {c : Frame} {cs : List Frame}, St P ρ H w .no fr c cs → fr.mode = .run → Goes P ρ H w c cs .no (seg P n fr H).1 (seg P n fr H).2 ∧ (seg P n fr H).1.mode = .run
  | 0, ρ, H, w, fr, c, cs, st, hm => ⟨Goes.refl st, hm⟩
  | n + 1, ρ, H, w, fr, c, cs, st, hm => by
    unfold seg
    cases h : move P fr H with
    | none => exact ⟨Goes.refl st, hm⟩
    | some p =>
      obtain ⟨fr', H'⟩ := p
      cases hd : fr'.defers with
      | cons d ds => simp only [hd]; exact ⟨Goes.refl st, hm⟩
      | nil =>
      simp only [hd]
      cases hnn : Nat.beq fr'.n fr.n with
      | false => exact ⟨Goes.refl st, hm⟩
      | true =>
      obtain ⟨g1, m1⟩ := move_goes hmix st hm h
      refine ⟨g1.trans fun ρ' w' c' cs' st' => (seg_goes hmix n st' m1).1, ?_⟩
      obtain ⟨ρ', w', c', cs', _, _, st', _⟩ := g1
      exact (seg_goes hmix n st' m1).2

theorem seg_n {P : Program} [Orc P] : ∀ (k : Nat) (fr : AFrame) (H : AHeap), (seg P k fr H).1.n = fr.n
  | 0, _, _ => rfl
  | k + 1, fr, H => by
    unfold seg
    cases h : move P fr H with
    | none => rfl
    | some p =>
      obtain ⟨fr', H'⟩ := p
      cases hd : fr'.defers with
      | cons d ds => simp only [hd]
      | nil =>
        simp only [hd]
        cases hnn : Nat.beq fr'.n fr.n with
        | false => rfl
        | true => rw [cond_true, seg_n k fr' H', Nat.eq_of_beq_eq_true hnn]
/-- How a frame's run ends. -/
def Ends (P : Program) (c : Frame) (cs : List Frame) (w : World) (R : Ending → World → Prop) : Prop :=
  ∃ e w' fr, R e w' ∧ Comes P (lone c cs w) (lone fr cs w') e ∧ fr.fn = c.fn ∧ fr.leaving P w' e
theorem Ends.calls {f : FuncId} {args : Array Value} {R : Ending → World → Prop} (h : ∀ cs, Ends P (Frame.enter P f args .normal) cs w R) : Calls P f args w R := fun cs => by
  obtain ⟨e, w', fr, h1, h2, h3, h4⟩ := h cs
  refine ⟨e, w', fr, h1, h2, ?_, h4⟩
  rw [h3]
  rfl
theorem Ends.of_steps {c' : Frame} {w' : World} {R : Ending → World → Prop} (s : Steps P (lone c cs w) (lone c' cs w')) (hf : c'.fn = c.fn) (h : Ends P c' cs w' R) : Ends P c cs w R := by
  obtain ⟨e, w2, fr2, h1, h2, h3, h4⟩ := h
  exact ⟨e, w2, fr2, h1, h2.of_steps s, h3.trans hf, h4⟩
theorem Ends.mono {R R' : Ending → World → Prop} (h : Ends P c cs w R) (hr : ∀ e w', R e w' → R' e w') : Ends P c cs w R' := by
  obtain ⟨e, w2, fr2, h1, h2⟩ := h
  exact ⟨e, w2, fr2, hr _ _ h1, h2⟩
/-- A frame's state, with what holds of frames that a plain call made. -/
structure At0 (P : Program) [Orc P] [OrcOk P] (ρ : Ren) (H : AHeap) (w : World) (fr : AFrame) (c : Frame) (cs : List Frame) : Prop where
  st : St P ρ H w .no fr c cs
  run : fr.mode = .run
  plain : fr.defers = []
  lone : c.roundOf = none
  kind : c.kind = .normal
/-- From state to state. -/
theorem Ends.goes {R : Ending → World → Prop} (a : At0 P ρ H w fr c cs) (g : Goes P ρ H w c cs .no fr' H') (hm : fr'.mode = .run) (hd : fr'.defers = [])
    (k : ∀ ρ' w' c', Ext ρ H w ρ' H' w' → At0 P ρ' H' w' fr' c' cs → c'.fn = c.fn → Ends P c' cs w' R) : Ends P c cs w R := by
  obtain ⟨ρ', w', c', cs', s1, e1, st1, u1, f1, k1, r1⟩ := g
  rw [a.kind] at u1
  simp only [SameUp] at u1
  subst u1
  exact (k ρ' w' c' e1 ⟨st1, hm, hd, r1.trans a.lone, k1.trans a.kind⟩ f1).of_steps s1 f1
end
end Go.Am
set_option linter.unusedSectionVars false
namespace Go.Am

/- Related values are one. -/
mutual
theorem RelV.det {ρ : Ren} : ∀ (a : AV) {v u : Value}, RelV ρ a v → RelV ρ a u → v = u
  | .bool _, v, u, h, k => by simp only [RelV] at h k; rw [h, k]
  | .int _ _, v, u, h, k => by simp only [RelV] at h k; rw [h, k]
  | .str _, v, u, h, k => by simp only [RelV] at h k; rw [h, k]
  | .ptr i off, v, u, h, k => by
    simp only [RelV] at h k
    obtain ⟨l, h1, rfl⟩ := h
    obtain ⟨l', k1, rfl⟩ := k
    rw [h1] at k1; cases k1; rfl
  | .nilptr, v, u, h, k => by simp only [RelV] at h k; rw [h, k]
  | .slice i off len es, v, u, h, k => by
    simp only [RelV] at h k
    obtain ⟨l, h1, _, _, rfl⟩ := h
    obtain ⟨l', k1, _, _, rfl⟩ := k
    rw [h1] at k1; cases k1; rfl
  | .nilslice, v, u, h, k => by simp only [RelV] at h k; rw [h, k]
  | .map i, v, u, h, k => by
    simp only [RelV] at h k
    obtain ⟨l, h1, rfl⟩ := h
    obtain ⟨l', k1, rfl⟩ := k
    rw [h1] at k1; cases k1; rfl
  | .nilmap, v, u, h, k => by simp only [RelV] at h k; rw [h, k]
  | .fn fn a c, v, u, h, k => by
    simp only [RelV] at h k
    obtain ⟨f, a1, c1, h1, rfl, h3, h4⟩ := h
    obtain ⟨g, a2, c2, k1, rfl, k3, k4⟩ := k
    rw [h1] at k1; cases k1
    have e1 := RelL.det a h3 k3
    have e2 := RelL.det c h4 k4
    rw [Array.toList_inj.1 e1, Array.toList_inj.1 e2]
  | .yieldf i, v, u, h, k => by
    simp only [RelV] at h k
    obtain ⟨l, h1, rfl⟩ := h
    obtain ⟨l', k1, rfl⟩ := k
    rw [h1] at k1; cases k1; rfl
  | .nilfunc, v, u, h, k => by simp only [RelV] at h k; rw [h, k]
  | .iface t x, v, u, h, k => by
    simp only [RelV] at h k
    obtain ⟨x1, rfl, h2⟩ := h
    obtain ⟨x2, rfl, k2⟩ := k
    rw [RelV.det x h2 k2]
  | .nilIface, v, u, h, k => by simp only [RelV] at h k; rw [h, k]
  | .agg cs, v, u, h, k => by
    simp only [RelV] at h k
    obtain ⟨c1, rfl, h2⟩ := h
    obtain ⟨c2, rfl, k2⟩ := k
    rw [Array.toList_inj.1 (RelL.det cs h2 k2)]
  | .tuple cs, v, u, h, k => by
    simp only [RelV] at h k
    obtain ⟨c1, rfl, h2⟩ := h
    obtain ⟨c2, rfl, k2⟩ := k
    rw [Array.toList_inj.1 (RelL.det cs h2 k2)]
  | .sym i, v, u, h, k => by
    simp only [RelV] at h k
    obtain ⟨l, h1, rfl, _⟩ := h
    obtain ⟨l', k1, rfl, _⟩ := k
    rw [h1] at k1; cases k1; rfl
  | .junk, v, u, h, k => by simp only [RelV] at h
theorem RelL.det {ρ : Ren} : ∀ (a : List AV) {v u : List Value}, RelL ρ a v → RelL ρ a u → v = u
  | [], v, u, h, k => by simp only [RelL] at h k; rw [h, k]
  | a :: avs, v, u, h, k => by
    simp only [RelL] at h k
    obtain ⟨x, xs, rfl, h1, h2⟩ := h
    obtain ⟨y, ys, rfl, k1, k2⟩ := k
    rw [RelV.det a h1 k1, RelL.det avs h2 k2]
end

/-- The memory of a piece of a run: none of its own yet; numbers below 1000 are package variables, from 1000 on symbols, from 2000 on objects. -/
def H0 : AHeap := ⟨.leaf, 2000⟩
def renOf (vals : List Value) : Ren := fun i => if i < 1000 then some ⟨i, 0, Go.undef⟩ else match vals[i - 1000]? with
  | some v => some ⟨0, 0, v⟩
  | none => none
theorem renOf_sym {vals : List Value} {k : Nat} {v : Value} (h : vals[k]? = some v) : renOf vals (1000 + k) = some ⟨0, 0, v⟩ := by
  unfold renOf
  rw [if_neg (by omega), show 1000 + k - 1000 = k by omega, h]
theorem renOf_glob (vals : List Value) : Glob (renOf vals) := fun g hg => ⟨⟨g, 0, Go.undef⟩, by unfold renOf; rw [if_pos hg], rfl⟩
theorem renOf_none {vals : List Value} (hl : vals.length ≤ 1000) {i : Nat} (hi : 2000 ≤ i) : renOf vals i = none := by
  unfold renOf
  rw [if_neg (by omega), List.getElem?_eq_none (by omega)]
theorem sym_rel {vals : List Value} {k : Nat} {v : Value} (h : vals[k]? = some v) (ho : v.oneCell' = true) : RelV (renOf vals) (.sym (1000 + k)) v := by
  simp only [RelV]
  exact ⟨_, renOf_sym h, rfl, ho⟩
theorem sym_val {vals : List Value} {ρ : Ren} (hle : (renOf vals).le ρ) {k : Nat} {v u : Value} (h : vals[k]? = some v) (hr : RelV ρ (.sym (1000 + k)) u) : u = v := by
  simp only [RelV] at hr
  obtain ⟨l, h1, rfl, _⟩ := hr
  rw [hle _ _ (renOf_sym h)] at h1
  cases h1; rfl

inductive Tag where
  | eql (t : TypeId)
  | neq (t : TypeId)
  | lss (t : TypeId)
  | add (t : TypeId)
  | len (t : TypeId)
  | idx (t : TypeId)
  | load (t : TypeId)
  | fld (t : TypeId) (f : Nat)
def tagOf : Op → Option Tag
  | .binOp .eql t _ _ _ => some (.eql t)
  | .binOp .neq t _ _ _ => some (.neq t)
  | .binOp .lss t _ _ _ => some (.lss t)
  | .binOp .add t _ _ _ => some (.add t)
  | .indexAddr t _ _ => some (.idx t)
  | .load t _ => some (.load t)
  | .fieldAddr t _ f => some (.fld t f)
  | .call c => match c.callee with
    | .builtin .len => match c.argTypes.toList with
      | [t] => some (.len t)
      | _ => none
    | _ => none
  | _ => none
def tagEq : Tag → Tag → Bool
  | .eql t, .eql u => Nat.beq t u
  | .neq t, .neq u => Nat.beq t u
  | .lss t, .lss u => Nat.beq t u
  | .add t, .add u => Nat.beq t u
  | .len t, .len u => Nat.beq t u
  | .idx t, .idx u => Nat.beq t u
  | .load t, .load u => Nat.beq t u
  | .fld t f, .fld u g => Nat.beq t u && Nat.beq f g
  | _, _ => false
theorem tagEq_eq {a b : Tag} (h : tagEq a b = true) : a = b := by
  cases a <;> cases b <;> simp only [tagEq] at h <;> first | (cases h; done) | (rw [Nat.eq_of_beq_eq_true h]) | (rw [Bool.and_eq_true] at h; rw [Nat.eq_of_beq_eq_true h.1, Nat.eq_of_beq_eq_true h.2])
abbrev Ent := Tag × List AV × AV
abbrev CEnt := FuncId × List AV × AV
def lookE : List Ent → Tag → List AV → Option AV
  | [], _, _ => none
  | (u, bs, a) :: l, tg, avs => bif tagEq u tg && AV.sames bs avs then some a else lookE l tg avs
def lookC : List CEnt → FuncId → List AV → Option AV
  | [], _, _ => none
  | (g, bs, a) :: l, f, avs => bif Nat.beq g f && AV.sames bs avs then some a else lookC l f avs
theorem lookE_mem {tg : Tag} {avs : List AV} {a : AV} : ∀ {l : List Ent}, lookE l tg avs = some a → (tg, avs, a) ∈ l
  | [], h => by cases h
  | (u, bs, b) :: l, h => by
    unfold lookE at h
    cases hb : (tagEq u tg && AV.sames bs avs) with
    | true =>
      rw [hb, cond_true] at h
      cases h
      rw [Bool.and_eq_true] at hb
      rw [tagEq_eq hb.1, sames_eq _ _ hb.2]
      exact List.mem_cons_self
    | false => rw [hb, cond_false] at h; exact List.mem_cons_of_mem _ (lookE_mem h)
theorem lookC_mem {f : FuncId} {avs : List AV} {a : AV} : ∀ {l : List CEnt}, lookC l f avs = some a → (f, avs, a) ∈ l
  | [], h => by cases h
  | (u, bs, b) :: l, h => by
    unfold lookC at h
    cases hb : (Nat.beq u f && AV.sames bs avs) with
    | true =>
      rw [hb, cond_true] at h
      cases h
      rw [Bool.and_eq_true] at hb
      rw [Nat.eq_of_beq_eq_true hb.1, sames_eq _ _ hb.2]
      exact List.mem_cons_self
    | false => rw [hb, cond_false] at h; exact List.mem_cons_of_mem _ (lookC_mem h)
@[reducible] def orcOf (P : Program) (es : List Ent) (cs : List CEnt) : Orc P :=
  ⟨true, fun op avs => match tagOf op with
    | some tg => lookE es tg avs
    | none => none, fun f avs _ => lookC cs f avs⟩

/-- An answer is true, as long as all blocks of a memory are as they were. -/
def EntOk (P : Program) (vals : List Value) (w : World) (e : Ent) : Prop :=
  ∃ vs v, RelL (renOf vals) e.2.1 vs ∧ RelV (renOf vals) e.2.2 v ∧ ∀ (o : Oper) (evc : Operand → Value), tagOf o.op = some e.1 → o.op.operands.toList.map evc = vs →
    ∀ w' : World, (∀ b, b < w.heap.size → w'.heap[b]? = w.heap[b]?) → (execOp evc o).run P w' = .ok (.value v) w'
def CallOk (P : Program) (vals : List Value) (w : World) (e : CEnt) : Prop :=
  ∃ vs v, RelL (renOf vals) e.2.1 vs ∧ RelV (renOf vals) e.2.2 v ∧ ∀ w' : World, (∀ b, b < w.heap.size → w'.heap[b]? = w.heap[b]?) → Calls P e.1 vs.toArray w' fun x w'' => x = .returned v ∧ Grows w' w''
@[reducible] def okOf (P : Program) (es : List Ent) (cs : List CEnt) (vals : List Value) (w : World) (hes : ∀ e ∈ es, EntOk P vals w e) (hcs : ∀ e ∈ cs, CallOk P vals w e) : @OrcOk P (orcOf P es cs) :=
  @OrcOk.mk P (orcOf P es cs) (renOf vals) w (fun b => b < w.heap.size) (fun _ h => h)
    (fun o avs a h ρ hle evc hr w' hk => by
      have h : (match tagOf o.op with
        | some tg => lookE es tg avs
        | none => none) = some a := h
      cases ht : tagOf o.op with
      | none => rw [ht] at h; cases h
      | some tg =>
        rw [ht] at h
        obtain ⟨vs, v, h1, h2, h3⟩ := hes _ (lookE_mem h)
        exact ⟨v, RelV.mono hle _ _ h2, h3 o evc ht (RelL.det _ hr (RelL.mono hle _ _ h1)) w' hk⟩)
    (fun f avs _ a h ρ hle args hr w' hk _ => by
      obtain ⟨vs, v, h1, h2, h3⟩ := hcs _ (lookC_mem h)
      have e := RelL.det _ hr (RelL.mono hle _ _ h1)
      have e2 : args = vs.toArray := by rw [← e]
      rw [e2]
      exact (h3 w' hk).mono fun x w'' ⟨q1, q2⟩ => ⟨v, RelV.mono hle _ _ h2, q1, q2⟩)

theorem Grows.refl (w : World) : Grows w w := ⟨Nat.le_refl _, fun _ _ => rfl, Still.refl _⟩
theorem Grows.trans {a b c : World} (h : Grows a b) (k : Grows b c) : Grows a c :=
  ⟨Nat.le_trans h.1 k.1, fun x hx => by rw [k.2 x (Nat.lt_of_lt_of_le hx h.1), h.2 x hx], h.3.trans k.3⟩

/-- Items that name no object. -/
def plainI : List AItem → Bool
  | [] => true
  | .endRangeFunc _ :: _ => false
  | _ :: l => plainI l
theorem plainI_any {ρ ρ' : Ren} : ∀ {l : List AItem} {x : List Item}, plainI l = true → RelItems ρ l x → RelItems ρ' l x
  | [], x, _, h => by simp only [RelItems] at *; exact h
  | a :: l, x, hp, h => by
    simp only [RelItems] at *
    obtain ⟨y, ys, h1, h2, h3⟩ := h
    have hl : plainI l = true := by cases a <;> simp only [plainI] at hp <;> first | exact hp | cases hp
    refine ⟨y, ys, h1, ?_, plainI_any hl h3⟩
    cases a <;> simp only [plainI] at hp <;> first | exact h2 | cases hp

/-- A frame of the machine's, as a frame with symbols tells it. -/
structure Here (P : Program) (ρ : Ren) (fr : AFrame) (c : Frame) : Prop where
  mode : c.mode = .run
  defers : c.defers = []
  lone : c.roundOf = none
  kind : c.kind = .normal
  run : fr.mode = .run
  plain : fr.defers = []
  round : fr.round = none
  fn : c.fn = fr.fn
  has : ∃ g, P.funcs[fr.fn]? = some g
  tmps : RelT ρ fr.n fr.tmps c.tmps
  todo : RelItems ρ fr.todo c.todo

section
variable {P : Program} {es : List Ent} {cs : List CEnt} {vals : List Value} {w : World} {fr : AFrame} {c : Frame} {ks : List Frame} {R : Ending → World → Prop}
/-- From a frame with symbols as far as its run goes. -/
theorem Ends.segG [Orc P] [OrcOk P] (hb : OrcOk.base P = renOf vals) (hW : OrcOk.W P = w) (hk : ∀ b, OrcOk.keep P b ↔ b < w.heap.size) (hmix : P.follows .mixedOrders = true) (hl : vals.length ≤ 1000) (h : Here P (renOf vals) fr c) (n : Nat)
    (k : ∀ ρ w' c', (renOf vals).le ρ → Grows w w' → Here P ρ (Am.seg P n fr H0).1 c' → c'.fn = c.fn → RelH P ρ (Am.seg P n fr H0).2 w' → Ends P c' ks w' R) : Ends P c ks w R := by
  have hh : RelH P (renOf vals) H0 w := ⟨fun i o ho => by simp [H0, AHeap.get, Tree.get_leaf] at ho, fun i j o o' l l' ho => by simp [H0, AHeap.get, Tree.get_leaf] at ho, fun i hi => renOf_none hl hi, by rw [hb]; exact Ren.le.refl _, fun _ _ => by rw [hW], by rw [hW]; exact Nat.le_refl _,
    (fun i o l ho => by simp [H0, AHeap.get, Tree.get_leaf] at ho), by rw [hW]; exact Still.refl _⟩
  have st : St P (renOf vals) H0 w .no fr c ks := by
    refine ⟨hh, renOf_glob vals, ⟨h.fn, h.has, fun _ => h.tmps, fun _ => h.todo, ?_, ?_, ?_⟩, h.kind⟩
    · rw [h.plain, h.defers]; simp only [RelDefs]
    · rw [h.run]; simp only [RelMode]; exact h.mode
    · rw [h.round]; exact h.lone
  obtain ⟨⟨ρ', w', c', cs', s1, e1, st1, u1, f1, k1, r1⟩, hm⟩ := seg_goes hmix n st h.run
  rw [h.kind] at u1
  simp only [SameUp] at u1
  subst u1
  have hg : Grows w w' := ⟨e1.size, fun b hb => e1.kept b hb fun i o l ho => by simp [H0, AHeap.get, Tree.get_leaf] at ho, e1.still⟩
  have hmode := st1.frame.mode
  rw [hm] at hmode
  simp only [RelMode] at hmode
  have hdef := st1.frame.defers
  have hrnd := st1.frame.round
  have key : ∀ n fr H, fr.defers = [] → (Am.seg P n fr H).1.defers = [] := by
    intro n
    induction n with
    | zero => intro fr H h1; exact h1
    | succ n ih =>
      intro fr H h1
      unfold Am.seg
      cases hmv : move P fr H with
      | none => exact h1
      | some p =>
        obtain ⟨fr2, H2⟩ := p
        cases hd : fr2.defers with
        | nil =>
          simp only [hd]
          cases Nat.beq fr2.n fr.n with
          | false => exact h1
          | true => exact ih fr2 H2 hd
        | cons d ds => simp only [hd]; exact h1
  have kd := key n fr H0 h.plain
  have hc' : c'.roundOf = none := r1.trans h.lone
  have kr : (Am.seg P n fr H0).1.round = none := by
    cases hq : (Am.seg P n fr H0).1.round with
    | none => rfl
    | some l =>
      rw [hq] at hrnd
      obtain ⟨_, loc, _, h2⟩ := hrnd
      rw [hc'] at h2
      cases h2
  rw [kd] at hdef
  simp only [RelDefs] at hdef
  exact (k ρ' w' c' e1.le hg ⟨hmode, hdef, r1.trans h.lone, k1.trans h.kind, hm, kd, kr, st1.frame.fn, st1.frame.has, st1.frame.tmps (Dead.not hm), st1.frame.todo hm⟩ f1 st1.heap).of_steps s1 f1
theorem Ends.seg (hmix : P.follows .mixedOrders = true) (hes : ∀ e ∈ es, EntOk P vals w e) (hcs : ∀ e ∈ cs, CallOk P vals w e) (hl : vals.length ≤ 1000) (h : Here P (renOf vals) fr c) (n : Nat)
    (k : ∀ ρ w' c', (renOf vals).le ρ → Grows w w' → Here P ρ (@Am.seg P (orcOf P es cs) n fr H0).1 c' → c'.fn = c.fn → @RelH P (orcOf P es cs) (okOf P es cs vals w hes hcs) ρ (@Am.seg P (orcOf P es cs) n fr H0).2 w' → Ends P c' ks w' R) : Ends P c ks w R := by
  letI : Orc P := orcOf P es cs
  letI : OrcOk P := okOf P es cs vals w hes hcs
  exact Ends.segG rfl rfl (fun _ => Iff.rfl) hmix hl h n k
end
end Go.Am
