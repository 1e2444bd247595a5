/-
  Part 25 of the proof that winch/winchlaw25.ChangeBodies returns true for every two bodies of small bulk: lemmas.
  Conditions: none beyond each theorem's own premises.
  What lies here:
  A region that draws its order, second part: its run. Condition: what the kernel tells of the region.
  The midst of a run before and behind a region that draws its order. Condition: what the kernel tells of the region.
  The reference's clone of a body.
  The reference's clone of lists of nodes.
-/
import Derived.Test.YtclhjedldbkgpaaGreatDoorBodies24
set_option linter.unusedVariables false
set_option linter.unusedSimpArgs false
set_option linter.unusedSectionVars false
namespace Go.Am
section
variable {P : Program} {H H2 : AHeap} {ev : Operand → Option AV} {o : Oper} {f : FuncId} {xs : List AV}
theorem append_not {t u : TypeId} {s x : AV} : appendA P H t u s x ≠ some (.enter f xs) := by
  unfold appendA
  simp only [cond_eq_ite]
  intro h
  (repeat' split at h) <;> cases h
theorem notBuiltin {b : Builtin} {ts : List TypeId} {as' : List AV} : builtinA P H b ts as' ≠ some (.enter f xs) := by
  unfold builtinA
  intro h
  split at h
  · exact append_not h
  all_goals (repeat' split at h) <;> cases h
theorem enter_any (hx : execA P H ev o = some (.enter f xs)) (H2 : AHeap) : execA P H2 ev o = some (.enter f xs) := by
  unfold execA at hx ⊢
  cases hop : o.op <;> rw [hop] at hx <;> simp only at hx ⊢
  case call c =>
    split at hx
    · cases hx
    · rename_i as' ha
      split at hx
      · exact absurd hx notBuiltin
      · exact hx
      · cases hx
  case mapUpdate => simp only [execA.updateA] at hx; (repeat' split at hx) <;> cases hx
  case insert => simp only [execA.updateA] at hx; (repeat' split at hx) <;> cases hx
  all_goals try simp only [cond_eq_ite] at hx
  all_goals (repeat' split at hx) <;> cases hx
end
section
variable {P : Program} [Orc P] [OrcOk P] {p : Draw} {C : Nat → Bool} {i s : Nat} {f : FuncId} {K : List Item} {l : List Nat} {ρ : Ren} {c : Frame} {H : AHeap} {w : World} {cs : List Frame} {R : Ending → World → Prop}
theorem chk_guard (h : p.chk P i = true) : guardOk p.ops (p.tree i) (opN p.ops i) = true := by
  unfold Draw.chk at h
  rw [Bool.and_eq_true] at h
  exact h.1
theorem RegAt.quiet (k : p.Ok P) (r : RegAt p C s f K (i :: l) ρ c) (t : Turn p.ops C i) (hi : i < p.last) (hh : RelH P ρ H w) (hg : Glob ρ) (hH : H.objs = p.H.objs) (hc : p.hands.contains i = false) :
    ∃ c', Steps P (Go.lone c cs w) (Go.lone c' cs w) ∧ c'.fn = c.fn ∧ RegAt p (addN C i) s f K l ρ c' := by
  have hk := k.chk_at hi
  have hgd := chk_guard hk
  have hT := r.rel k t
  have hw := wanted_eq hT p.ops (opN p.ops i) hgd
  have hop := opN_get (Draw.last_lt k hi)
  have hfn : ∀ v, (c.finish v).fn = c.fn := fun v => by rw [finish_eq (Draw.last_lt k hi) r.todo v]
  unfold Draw.chk at hk
  rw [Bool.and_eq_true] at hk
  have hk := hk.2
  rw [hc] at hk
  cases hwa : wantedA p.ops (p.tree i) (opN p.ops i) with
  | false =>
    rw [hwa, cond_false, Bool.and_eq_true] at hk
    have hv := same_eq _ _ hk.2
    refine ⟨c.finish undef, Steps.one (mv_skipOp r.mode r.todo (by rw [hop]; simp only [Option.map_some, Option.getD_some]; rw [hw, hwa])), hfn _, r.done k t hi (Ren.le.refl ρ) ?_ (stage_same r hc) r.sle⟩
    rw [hv]
    exact relV_undef ρ
  | true =>
    rw [hwa, cond_true, cond_false, Bool.and_eq_true] at hk
    obtain ⟨h1, h2⟩ := hk
    have hat : AtOp c p.ops i l K (opN p.ops i) := ⟨r.mode, r.todo, hop, by rw [hw, hwa]⟩
    unfold valueIs at h2
    split at h2
    case h_2 => cases h2
    rename_i u H' hx
    have hu := same_eq _ _ h2
    subst hu
    have hcls : clsOf (opN p.ops i) = .pure ∨ clsOf (opN p.ops i) = .reads := by
      cases hq : clsOf (opN p.ops i) <;> rw [hq] at h1 <;> first | exact Or.inl rfl | exact Or.inr rfl | cases h1
    have hx2 : execA P H (evA (p.tree i)) (opN p.ops i) = some (.value (p.val i) H) := by
      have e : H = ⟨p.H.objs, H.next⟩ := by rw [← hH]
      rcases hcls with hq | hq
      · exact (pure_any hq hx H).2
      · have := (reads_any hq hx H.next).2
        rw [← e] at this
        exact this
    obtain ⟨v, h3, h4⟩ := quiet_rel hh (evA_rel hg hT) hcls hx2
    refine ⟨c.finish v, Steps.one (mv_value hat (Or.inr (not_defer (by rcases hcls with hq | hq <;> rw [hq] <;> rfl))) h3), hfn _, r.done k t hi (Ren.le.refl ρ) h4 (stage_same r hc) r.sle⟩
/-- A call's turn. -/
theorem RegAt.hand (k : p.Ok P) (r : RegAt p C s f K (i :: l) ρ c) (t : Turn p.ops C i) (hi : i < p.last) (hh : RelH P ρ H w) (hg : Glob ρ) (hc : p.hands.contains i = true) {Q : Value → World → Prop}
    (call : ∀ args : Array Value, RelL ρ (p.call i).2 args.toList → Calls P (p.call i).1 args w fun e w' => ∃ v, e = .returned v ∧ Q v w')
    (kont : ∀ v w' c', Q v w' → (∀ ρ', ρ.le ρ' → RelV ρ' (p.val i) v → RegAt p (addN C i) (s + 1) f K l ρ' c') → c'.fn = c.fn → Ends P c' cs w' R) : Ends P c cs w R := by
  have hk := k.chk_at hi
  have hgd := chk_guard hk
  have hT := r.rel k t
  have hw := wanted_eq hT p.ops (opN p.ops i) hgd
  have hop := opN_get (Draw.last_lt k hi)
  have hfn : ∀ v, (c.finish v).fn = c.fn := fun v => by rw [finish_eq (Draw.last_lt k hi) r.todo v]
  obtain ⟨hst0, hst⟩ := r.turn k t hc
  have hsl : s + 1 ≤ p.hands.length := (List.getElem?_eq_some_iff.1 hst0).1
  unfold Draw.chk at hk
  rw [Bool.and_eq_true] at hk
  have hk := hk.2
  rw [hc] at hk
  cases hwa : wantedA p.ops (p.tree i) (opN p.ops i) with
  | false =>
    rw [hwa, cond_false, Bool.and_eq_true] at hk
    cases hk.1
  | true =>
    rw [hwa, cond_true, cond_true] at hk
    have hat : AtOp c p.ops i l K (opN p.ops i) := ⟨r.mode, r.todo, hop, by rw [hw, hwa]⟩
    unfold enterIs at hk
    split at hk
    case h_2 => cases hk
    rename_i g as' hx
    rw [Bool.and_eq_true] at hk
    have e1 := Nat.eq_of_beq_eq_true hk.1
    have e2 := sames_eq _ _ hk.2
    have hx2 := enter_any hx H
    have hor := execA_rel hh (evA_rel hg hT) hx2
    simp only [OutRel] at hor
    obtain ⟨args', h3, h4⟩ := hor
    rw [e2] at h4
    rw [e1] at h3
    have hnd : ∀ x, (opN p.ops i).op ≠ .defer x := fun x e => by
      unfold execA at hx
      rw [e] at hx
      simp only at hx
      (repeat' split at hx) <;> cases hx
    have s1 := mv_enter (cs := cs) hat (Or.inr hnd) h3
    obtain ⟨e', w', fr', ⟨v, rfl, hq⟩, st, _, lv⟩ := call args' h4 (c :: cs)
    exact (kont v w' (c.finish v) hq (fun ρ' hle hv => r.done k t hi hle hv hst hsl) (hfn _)).of_steps ((Steps.head s1 st).trans (Steps.one (step_leave_returned lv))) (hfn _)
theorem ready_all {ops : Array Oper} {ms : List Nat} (hb : befores [] ops.toList = some ms) {listed : Array Bool} (hsz : listed.size = ops.size) (h : Region.ready .any ops listed = []) : ∀ i, i < ops.size → inC listed i = true := by
  intro i
  induction i using Nat.strongRecOn with
  | _ i ih =>
    intro hi
    cases hq : inC listed i with
    | true => rfl
    | false =>
      exfalso
      have hmem : i ∈ Region.ready .any ops listed := by
        unfold Region.ready
        refine List.mem_filter.2 ⟨by simpa using hi, ?_⟩
        rw [Bool.and_eq_true, opN_get hi]
        constructor
        · unfold inC at hq
          simp only [Array.getD_eq_getD_getElem?] at hq ⊢
          rw [show listed[i]? = some (listed[i]'(by omega)) from Array.getElem?_eq_getElem _] at hq ⊢
          simpa using hq
        · simp only [Option.map_some, Option.getD_some]
          rw [Array.all_eq_true']
          intro e he
          cases hbb : Region.binds .any e with
          | false => rfl
          | true =>
            obtain ⟨_, _, h3⟩ := befores_spec hb
            obtain ⟨m', q1, q2⟩ := h3 i (opN ops i) (by rw [Array.getElem?_toList]; exact opN_get hi)
            simp only [List.length_nil, Nat.zero_add] at q1 q2
            obtain ⟨_, b', f1, _⟩ := (predMask_spec q2).2 e (by simpa using he) hbb
            have hlt : e.on < i := by
              have := (List.getElem?_eq_some_iff.1 f1).1
              simp at this
              omega
            have := ih e.on hlt (by omega)
            simpa [inC] using this
      rw [h] at hmem
      cases hmem
theorem go_none {ops : Array Oper} {listed : Array Bool} (h : Region.ready .any ops listed = []) (fuel t : Nat) : Region.linearise.go .any ops fuel t listed [] = [] := by
  cases fuel with
  | zero => simp [Region.linearise.go]
  | succ fuel =>
    simp only [Region.linearise.go]
    change (match (Region.ready .any ops listed)[t % (Region.ready .any ops listed).length]? with
      | some i => Region.linearise.go .any ops fuel (t / (Region.ready .any ops listed).length) (listed.setIfInBounds i true) [i]
      | none => [].reverse) = []
    rw [h]
    simp
theorem RegAt.start {id : Nat} {c : Frame} (k : p.Ok P) (h1 : c.mode = .run) (h2 : c.defers = []) (h3 : c.roundOf = none) (h4 : c.kind = .normal) (h5 : c.fn = f) (h6 : c.tmps.size = p.n) (h7 : ∀ e ∈ p.base, RelV ρ e.2 (c.tmps.getD e.1 Go.undef)) (l : List Nat) :
    RegAt p (inC (Array.replicate p.ops.size false)) 0 f K l ρ { c with todo := .inRegion p.ops l :: K } := by
  have hempty : ∀ j, inC (Array.replicate p.ops.size false) j = false := fun j => by
    unfold inC
    rw [Array.getD_eq_getD_getElem?, Array.getElem?_replicate]
    split <;> rfl
  refine ⟨h1, h2, h3, h4, h5, rfl, h6, h7, fun j hj => ?_, fun j hj => ?_, fun j hj => ?_, fun t h ht => ?_, ?_⟩
  · rw [hempty] at hj; cases hj
  · rw [hempty] at hj; cases hj
  · have hj : inC (Array.replicate p.ops.size false) j = true := hj
    rw [hempty] at hj; cases hj
  · rw [hempty]
    constructor
    · intro h; cases h
    · intro h; omega
  · exact Nat.zero_le _
/-- The run of a region, in whatever order, up to its last operation. -/
theorem Ends.draw (hmix : P.follows .mixedOrders = true) (k : p.Ok P) {U : Nat → Ren → AHeap → World → Prop}
    (hU : ∀ s ρ H w, U s ρ H w → RelH P ρ H w ∧ Glob ρ ∧ H.objs = p.H.objs) (hdraw : ∀ ρ H w, U 0 ρ H w → U 0 ρ H { w with drawn := w.drawn + 1 })
    (hhand : ∀ s h, p.hands[s]? = some h → ∀ ρ H w, U s ρ H w → ∀ args : Array Value, RelL ρ (p.call h).2 args.toList → Calls P (p.call h).1 args w fun e w' => ∃ v, e = .returned v ∧ ∃ ρ' H', ρ.le ρ' ∧ RelV ρ' (p.val h) v ∧ U (s + 1) ρ' H' w')
    {id : Nat} (u : U 0 ρ H w) (h1 : c.mode = .run) (h2 : c.defers = []) (h3 : c.roundOf = none) (h4 : c.kind = .normal) (h5 : c.fn = f) (h6 : c.tmps.size = p.n) (h7 : ∀ e ∈ p.base, RelV ρ e.2 (c.tmps.getD e.1 Go.undef)) (ht : c.todo = .code (.region id p.ops true) :: K)
    (kont : ∀ ρ' H' w' c' C, ρ.le ρ' → U p.hands.length ρ' H' w' → (∀ j, j < p.last → C j = true) → RegAt p C p.hands.length f K [p.last] ρ' c' → Ends P c' cs w' R) : Ends P c cs w R := by
  have key : ∀ (fuel t : Nat) (listed : Array Bool) (s : Nat) (ρ' : Ren) (H' : AHeap) (w' : World) (c' : Frame), listed.size = p.ops.size → p.ops.size ≤ cntN (fun _ => true) (inC listed) p.ops.size + fuel → ρ.le ρ' → U s ρ' H' w' →
      RegAt p (inC listed) s f K (Region.linearise.go .any p.ops fuel t listed []) ρ' c' → Ends P c' cs w' R := by
    have bad : ∀ (listed : Array Bool) (s : Nat) (l : List Nat) (ρ' : Ren) (w' : World) (c' : Frame), (∀ j, j < p.ops.size → inC listed j = true) → RegAt p (inC listed) s f K l ρ' c' → Ends P c' cs w' R := fun listed s l ρ' w' c' hall r => by
      have hp := k.pos
      have := r.low p.last (hall p.last (by unfold Draw.last; omega))
      omega
    intro fuel
    induction fuel with
    | zero =>
      intro t listed s ρ' H' w' c' hsz hcnt hle hu r
      have hall := cnt_eqv (sel := fun _ => true) (q := inC listed) (q' := fun _ => true) (n := p.ops.size) (fun _ _ _ _ => rfl) (by
        have h1 := cnt_all p.ops.size
        have h2 : cntN (fun _ => true) (inC listed) p.ops.size ≤ cntN (fun _ => true) (fun _ => true) p.ops.size := cnt_mono fun _ _ _ _ => rfl
        omega)
      exact bad listed s _ ρ' w' c' (fun j hj => hall j hj rfl rfl) r
    | succ fuel ih =>
      intro t listed s ρ' H' w' c' hsz hcnt hle hu r
      have r : RegAt p (inC listed) s f K (match (Region.ready .any p.ops listed)[t % (Region.ready .any p.ops listed).length]? with
        | some i => Region.linearise.go .any p.ops fuel (t / (Region.ready .any p.ops listed).length) (listed.setIfInBounds i true) [i]
        | none => [].reverse) ρ' c' := by
        have := r
        simp only [Region.linearise.go] at this
        exact this
      cases hi : (Region.ready .any p.ops listed)[t % (Region.ready .any p.ops listed).length]? with
      | none =>
        rw [hi] at r
        have hnil : Region.ready .any p.ops listed = [] := by
          cases hr : Region.ready .any p.ops listed with
          | nil => rfl
          | cons x xs =>
            rw [hr] at hi
            have hlt : t % (x :: xs).length < (x :: xs).length := Nat.mod_lt _ (by simp)
            simp at hi
            simp at hlt
            omega
        exact bad listed s _ ρ' w' c' (ready_all k.bef hsz hnil) r
      | some i =>
        rw [hi] at r
        simp only [linearise_go_acc .any p.ops fuel _ _ [i], List.reverse_singleton, List.singleton_append] at r
        have tn := ready_turn hsz (List.mem_of_getElem? hi)
        have hcnt' : p.ops.size ≤ cntN (fun _ => true) (inC (listed.setIfInBounds i true)) p.ops.size + fuel := by
          rw [inC_set (by rw [hsz]; exact tn.size), cnt_set tn.out tn.size]
          omega
        obtain ⟨u1, u2, u3⟩ := hU _ _ _ _ hu
        by_cases him : i < p.last
        · cases hc : p.hands.contains i with
          | false =>
            obtain ⟨c2, s1, f1, r2⟩ := r.quiet (cs := cs) k tn him u1 u2 u3 hc
            rw [← inC_set (by rw [hsz]; exact tn.size)] at r2
            exact (ih _ _ s ρ' H' w' c2 (by simp [hsz]) hcnt' hle hu r2).of_steps s1 f1
          | true =>
            obtain ⟨q1, _⟩ := r.turn k tn hc
            refine r.hand k tn him u1 u2 hc (Q := fun v w2 => ∃ ρ2 H2, ρ'.le ρ2 ∧ RelV ρ2 (p.val i) v ∧ U (s + 1) ρ2 H2 w2) (hhand s i q1 ρ' H' w' hu) fun v w2 c2 ⟨ρ2, H2, v1, v2, v3⟩ hr _ => ?_
            have r2 := hr ρ2 v1 v2
            rw [← inC_set (by rw [hsz]; exact tn.size)] at r2
            exact ih _ _ (s + 1) ρ2 H2 w2 c2 (by simp [hsz]) hcnt' (hle.trans v1) v3 r2
        · have hil : i = p.last := by
            have := tn.size
            unfold Draw.last at him ⊢
            omega
          subst hil
          have hall : ∀ j, j < p.last → inC listed j = true := fun j hj => by
            have := k.end'
            rw [List.all_eq_true] at this
            exact k.mask tn r.clos (this j (by simpa using hj))
          have hs : s = p.hands.length := by
            have h8 : ∀ t, t < p.hands.length → t < s := fun t ht => by
              have h9 : p.hands[t]? = some p.hands[t] := List.getElem?_eq_getElem ht
              refine (r.stage t _ h9).1 (hall _ ?_)
              have := k.low
              rw [List.all_eq_true] at this
              exact Nat.lt_of_succ_le (Nat.le_of_ble_eq_true (this _ (List.mem_of_getElem? h9)))
            have h10 := r.sle
            rcases Nat.lt_or_ge s p.hands.length with h11 | h11
            · have := h8 s h11; omega
            · omega
          have hnil : Region.linearise.go .any p.ops fuel (t / (Region.ready .any p.ops listed).length) (listed.setIfInBounds p.last true) [] = [] := by
            have hr : Region.ready .any p.ops (listed.setIfInBounds p.last true) = [] := by
              unfold Region.ready
              rw [List.filter_eq_nil_iff]
              intro j hj
              have hj : j < p.ops.size := by simpa using hj
              have : inC (listed.setIfInBounds p.last true) j = true := by
                rw [inC_set (by rw [hsz]; exact tn.size)]
                by_cases e : j = p.last
                · exact addN_iff.2 (Or.inl e)
                · exact addN_iff.2 (Or.inr (hall j (by unfold Draw.last at e ⊢; omega)))
              have h8 : (listed.setIfInBounds p.last true).getD j true = true := by
                unfold inC at this
                simp only [Array.getD_eq_getD_getElem?] at this ⊢
                rw [show (listed.setIfInBounds p.last true)[j]? = some ((listed.setIfInBounds p.last true)[j]'(by simp [hsz]; exact hj)) from Array.getElem?_eq_getElem _] at this ⊢
                simpa using this
              rw [h8]
              simp
            exact go_none hr _ _
          rw [hnil] at r
          subst hs
          exact kont ρ' H' w' c' _ hle hu hall r
  have s1 := mv_draw (P := P) (cs := cs) (w := w) h1 ht
  have hsch : Region.schedule (P.follows .mixedOrders) p.ops (w.tape w.drawn (.order c.fn id)) = Region.linearise.go .any p.ops p.ops.size (w.tape w.drawn (.order c.fn id)) (Array.replicate p.ops.size false) [] := by
    simp [Region.schedule, hmix, Region.linearise]
  refine Ends.of_steps (Steps.one s1) rfl ?_
  rw [hsch]
  exact key p.ops.size _ _ 0 ρ H _ _ (by simp) (by omega) (Ren.le.refl _) (hdraw _ _ _ u) (RegAt.start (id := id) k h1 h2 h3 h4 h5 h6 h7 _)
end
end Go.Am
set_option linter.unusedSectionVars false
namespace Go.Am

/-- The midst of a run but for its frame. -/
structure Stat (P : Program) [Orc P] [OrcOk P] (tb : Tab) (n0 : Nat) (V : List Value) (made : List Fact) (outs : List Grow) (ρ : Ren) (H : AHeap) (w : World) : Prop where
  heap : RelH P ρ H w
  glob : Glob ρ
  keep : ∀ b, b < n0 → OrcOk.keep P b
  size : (OrcOk.W P).heap.size = n0
  base : (renOf V).le ρ
  named : ∀ q ∈ made, ρ q.j = some ⟨0, 0, q.z⟩
  data : Data tb n0 made outs ρ H w
def Draw.frame (p : Draw) (f : FuncId) (K : List AItem) : AFrame := ⟨f, p.n, p.tree p.last, .inRegion p.ops [opN p.ops p.last] :: K, [], .run, none⟩
section
variable {P : Program} [Orc P] [OrcOk P] {tb : Tab} {f : FuncId} {n0 : Nat} {V : List Value} {made : List Fact} {outs : List Grow} {ρ : Ren} {H : AHeap} {w w' : World} {fr : AFrame} {c : Frame} {ks : List Frame} {R : Ending → World → Prop} {p : Draw} {K : List AItem} {id : Nat}
theorem Sit.stat (a : Sit P tb f n0 V made outs ρ H w fr c ks) : Stat P tb n0 V made outs ρ H w := ⟨a.state.st.heap, a.state.st.glob, a.keep, a.size, a.base, a.named, a.data⟩
theorem Stat.grows (a : Stat P tb n0 V made outs ρ H w) : Grows (OrcOk.W P) w :=
  ⟨a.heap.wsize, fun b hb => a.heap.kept b (a.keep b (by rw [← a.size]; exact hb)), a.heap.still⟩
theorem Stat.same (a : Stat P tb n0 V made outs ρ H w) (hw : w'.heap = w.heap) (hst : Still w w') : Stat P tb n0 V made outs ρ H w' :=
  ⟨a.heap.same hw hst, a.glob, a.keep, a.size, a.base, a.named, a.data.ext (Ext.same hw hst)⟩
/-- Behind a call: its result is new symbols. -/
theorem Stat.result (a : Stat P tb n0 V made outs ρ H w) {m : Option Nat} {v : Value} {vs : List Value} (hsh : shape m v vs) (hg : Grows w w') (fs : List Fact) (hfs : ∀ ρ' : Ren, (∀ (i : Nat) z, vs[i]? = some z → ρ' (H.next + i) = some ⟨0, 0, z⟩) → ∀ q ∈ fs, ρ' q.j = some ⟨0, 0, q.z⟩ ∧ RdC tb (fun b => w.heap.size ≤ b ∧ b < w'.heap.size) w' q.t q.z q.x) :
    ∃ ρ', ρ.le ρ' ∧ RelV ρ' (newAV H.next m) v ∧ Stat P tb n0 V (fs ++ made) outs ρ' (bump H vs.length) w' := by
  have hh := a.heap
  have hle := Ren.le_news hh.fresh vs
  have hat : ∀ (i : Nat) z, vs[i]? = some z → ρ.news H.next vs (H.next + i) = some ⟨0, 0, z⟩ := fun i z hz => Ren.news_at hz
  have hh' : RelH P (ρ.news H.next vs) (bump H vs.length) w' := hh.hand hg.1 (fun i x l hx hl => by
    obtain ⟨l', q1, q2, _⟩ := hh.obj i x hx
    rw [hl] at q1
    cases q1
    exact hg.2 _ q2) (fun b hb => hg.2 b (Nat.lt_of_lt_of_le (OrcOk.inW b hb) hh.wsize)) hg.3 vs
  obtain ⟨d, g⟩ := a.data.hand hh hle hg (H' := bump H vs.length) fun _ => rfl
  exact ⟨_, hle, newAV_rel hsh hat, hh', a.glob.mono hle, a.keep, a.size, a.base.trans hle, fun q hq => by
    rcases List.mem_append.1 hq with hq | hq
    · exact (hfs _ hat q hq).1
    · exact hle _ _ (a.named q hq), d.add fs (fun q hq => (hfs _ hat q hq).2) fun b hb => g b hb.1 hb.2⟩
theorem Sit.draw (hmix : P.follows .mixedOrders = true) (k : p.Ok P) (a : Sit P tb f n0 V made outs ρ H w fr c ks) (ht : fr.todo = .code (.region id p.ops true) :: K) (hpK : plainI K = true) (hn : fr.n = p.n) (hb : slotsAre fr.tmps p.base = true) (hbj : (p.base.all fun e => match e.2 with
      | .junk => false
      | _ => true) = true) (hH : H.objs = p.H.objs)
    (X : Nat → List Fact → Prop) (x0 : X 0 made) (nx : Nat → Nat) (hn0 : H.next = nx 0)
    (hand : ∀ s h, p.hands[s]? = some h → ∀ ρ H w made, Stat P tb n0 V made outs ρ H w → X s made → H.next = nx s → ∀ args : Array Value, RelL ρ (p.call h).2 args.toList → Calls P (p.call h).1 args w fun e w' => ∃ v, e = .returned v ∧ ∃ ρ' H' made', ρ.le ρ' ∧ H'.objs = H.objs ∧ H'.next = nx (s + 1) ∧ RelV ρ' (p.val h) v ∧ Stat P tb n0 V made' outs ρ' H' w' ∧ X (s + 1) made')
    (kont : ∀ ρ' w' c' made', ρ.le ρ' → X p.hands.length made' → Sit P tb f n0 V made' outs ρ' ⟨p.H.objs, nx p.hands.length⟩ w' (p.frame f K) c' ks → Ends P c' ks w' R) : Ends P c ks w R := by
  have h := a.state.here
  have hto := h.todo
  rw [ht] at hto
  simp only [RelItems, RelItem] at hto
  obtain ⟨x, K0, e1, rfl, hK⟩ := hto
  refine Ends.draw (p := p) (f := f) (K := K0) (H := H) (ρ := ρ) hmix k (U := fun s ρ H w => H.objs = p.H.objs ∧ H.next = nx s ∧ ∃ made, X s made ∧ Stat P tb n0 V made outs ρ H w)
    (fun s ρ H w ⟨q1, _, made, _, q2⟩ => ⟨q2.heap, q2.glob, q1⟩) (fun ρ H w ⟨q1, q2, made, q3, q4⟩ => ⟨q1, q2, made, q3, q4.same rfl ⟨rfl, rfl⟩⟩) (fun s hh hs ρ H w ⟨q1, q2, made, q3, q4⟩ args ra => ?_)
    ⟨hH, hn0, made, x0, a.stat⟩ h.mode h.defers h.lone h.kind a.fn (by rw [← hn]; exact h.tmps.size) (fun e he => ?_) e1 fun ρ' H' w' c' C hle ⟨q1, q2, made', q3, q4⟩ hall r => ?_
  · refine (hand s hh hs ρ H w made q4 q3 q2 args ra).mono fun e w' ⟨v, h1, ρ', H', made', h2, h3, h4, h5, h6, h7⟩ => ⟨v, h1, ρ', H', h2, h5, h3.trans q1, h4, made', h7, h6⟩
  · refine a.state.slot hb he fun ej => ?_
    rw [List.all_eq_true] at hbj
    have := hbj e he
    rw [ej] at this
    cases this
  · have e2 : H' = ⟨p.H.objs, nx p.hands.length⟩ := by rw [← q1, ← q2]
    subst e2
    have hlast : p.last < p.ops.size := by have := k.pos; unfold Draw.last; omega
    have hT : RelT ρ' p.n (p.tree p.last) c'.tmps := mkTree_rel r.size fun e he => by
      rcases List.mem_append.1 he with he | he
      · exact r.base e he
      · obtain ⟨j, h1, h2, h3, h4⟩ := slotsN_mem he
        rw [h4]
        exact r.val j (hall j h1) _ h3
    have hhas : ∃ g, P.funcs[f]? = some g := by
      obtain ⟨g, hg⟩ := h.has
      exact ⟨g, by rw [← a.fn, h.fn]; exact hg⟩
    refine kont ρ' w' c' made' hle q3 ⟨⟨⟨q4.heap, q4.glob, ⟨r.fn, hhas, fun _ => hT, fun _ => ?_, ?_, ?_, ?_⟩, ?_⟩, rfl, rfl, r.lone, r.kind⟩, r.fn, q4.keep, q4.size, q4.base, q4.named, q4.data⟩
    · simp only [Draw.frame, RelItems, RelItem]
      exact ⟨_, _, r.todo, ⟨_, rfl, by simp [opN_get hlast]⟩, plainI_any hpK hK⟩
    · rw [r.defers]; simp only [Draw.frame, RelDefs]
    · simp only [Draw.frame, RelMode]; exact r.mode
    · exact r.lone
    · exact r.kind
end
end Go.Am
set_option linter.unusedSectionVars false
namespace Go.Am
open Go.Proofs
section
variable {P : Program} [Orc P] [OrcOk P] {tb : Tab} {n0 : Nat} {V : List Value} {made : List Fact} {outs : List Grow} {ρ : Ren} {H : AHeap} {w : World}
theorem Stat.call1 (a : Stat P tb n0 V made outs ρ H w) {g : FuncId} {j : Nat} {t : TypeId} {z : Value} {x : List T} {args : Array Value} (hz : ρ j = some ⟨0, 0, z⟩) (hr : RdC tb Any w t z (.seq x)) (hc : Clone1 P tb g t x) (ra : RelL ρ [.sym j] args.toList) :
    Calls P g args w fun e w' => ∃ v, e = .returned v ∧ ∃ ρ', ρ.le ρ' ∧ RelV ρ' (.sym H.next) v ∧ Stat P tb n0 V (⟨H.next, v, .seq x, t⟩ :: made) outs ρ' (bump H 1) w' := by
  simp only [RelL] at ra
  obtain ⟨z', l', e1, r1, rfl⟩ := ra
  have e2 := sym_is hz r1
  have e3 : args = #[z] := Array.toList_inj.1 (by rw [e1, e2])
  rw [e3]
  refine (hc w z hr).mono fun e w' ⟨v, h1, ⟨vs, hsh⟩, hg, hd⟩ => ?_
  obtain ⟨rfl, ho⟩ := hsh
  obtain ⟨ρ', q1, q2, q3⟩ := a.result (m := none) (v := v) (vs := [v]) ⟨rfl, ho⟩ hg [⟨H.next, v, .seq x, t⟩] fun ρ' h q hq => by
    rw [List.mem_singleton] at hq
    subst hq
    exact ⟨h 0 v rfl, hd⟩
  exact ⟨v, h1, ρ', q1, q2, q3⟩
theorem Stat.callRow1 (a : Stat P tb n0 V made outs ρ H w) {g : FuncId} {E : TypeId} {xs : List AV} {zs : List Value} {x : List T} {m : Nat} {args : Array Value} (hm : (tb.flat E).length = m) (hz : ∀ l, RelL ρ xs l → l = zs) (hr : RdVals tb Any w (tb.flat E) zs x) (hc : CloneRow P tb g E x) (ra : RelL ρ [.agg xs] args.toList) :
    Calls P g args w fun e w' => ∃ v, e = .returned v ∧ ∃ ρ' us, us.length = m ∧ ρ.le ρ' ∧ RelV ρ' (.agg (symR H.next m)) v ∧ Stat P tb n0 V (newFacts H.next us x (tb.flat E) ++ made) outs ρ' (bump H m) w' := by
  subst hm
  simp only [RelL, RelV] at ra
  obtain ⟨z', l', e1, ⟨zz, rfl, r1⟩, rfl⟩ := ra
  have e2 := hz _ r1
  have e3 : args = #[.agg zs.toArray] := Array.toList_inj.1 (by rw [e1, ← e2])
  rw [e3]
  refine (hc w zs hr).mono fun e w' ⟨v, h1, ⟨vs, hsh⟩, hg, us, h4, hd⟩ => ?_
  have hl := hsh.1
  have e5 : vs = us := by
    have := hsh.2.1
    rw [h4] at this
    injection this with this
    injection this with this
    exact this.symm
  subst e5
  obtain ⟨ρ', q1, q2, q3⟩ := a.result (m := some (tb.flat E).length) (v := v) (vs := vs) hsh hg (newFacts H.next vs x (tb.flat E)) fun ρ' h => newFacts_rd hd h
  rw [hl] at q3
  exact ⟨v, h1, ρ', vs, hl, q1, q2, q3⟩
end
def wantRow : Nat → List T → List TypeId → List (Nat × T × TypeId)
  | j, y :: ys, t :: ts => (j, y, t) :: wantRow (j + 1) ys ts
  | _, _, _ => []
theorem wantRow_mem : ∀ {j : Nat} {us : List Value} {ys : List T} {ts : List TypeId}, us.length = ts.length → ∀ e ∈ wantRow j ys ts, ∃ z, (⟨e.1, z, e.2.1, e.2.2⟩ : Fact) ∈ newFacts j us ys ts
  | j, us, [], ts, _, e, he => by simp [wantRow] at he
  | j, us, y :: ys, [], _, e, he => by simp [wantRow] at he
  | j, [], y :: ys, t :: ts, h, e, he => by simp at h
  | j, u :: us, y :: ys, t :: ts, h, e, he => by
    simp only [wantRow, List.mem_cons] at he
    rcases he with rfl | he
    · exact ⟨u, by simp [newFacts]⟩
    · obtain ⟨z, hz⟩ := wantRow_mem (us := us) (by simpa using h) e he
      exact ⟨z, by simp only [newFacts]; exact List.mem_cons_of_mem _ hz⟩
/-- A frame that stands before a region that draws. -/
def opsOf (p : Option (Func × AFrame × AHeap)) : Array Oper :=
  match p with
  | some (_, fr, _) => match fr.todo with
    | .code (.region _ ops true) :: _ => ops
    | _ => #[]
  | none => #[]
def nOf (p : Option (Func × AFrame × AHeap)) : Nat :=
  match p with
  | some (_, fr, _) => fr.n
  | none => 0
def drawHead (p : Option (Func × AFrame × AHeap)) (base : List (Nat × AV)) : Bool :=
  match p with
  | some (_, fr, _) => match fr.todo with
    | .code (.region _ _ true) :: K => plainI K && slotsAre fr.tmps base
    | _ => false
  | none => false
theorem drawHead_is {p : Option (Func × AFrame × AHeap)} {base : List (Nat × AV)} (h : drawHead p base = true) : ∃ x id K, p = some x ∧ x.2.1.todo = .code (.region id (opsOf p) true) :: K ∧ plainI K = true ∧ slotsAre x.2.1.tmps base = true ∧ x.2.1.n = nOf p ∧ heapOf p = x.2.2 := by
  unfold drawHead at h
  split at h
  case h_2 => cases h
  rename_i g fr H
  split at h
  case h_2 => cases h
  rename_i id ops K ht
  rw [Bool.and_eq_true] at h
  exact ⟨(g, fr, H), id, K, rfl, by simp only [opsOf, ht], h.1, h.2, rfl, rfl⟩
/-- Behind the region. -/
def drawEnd (P : Program) [Orc P] (p : Option (Func × AFrame × AHeap)) (d : Draw) (f : FuncId) (nx : Nat) : Option (Func × AFrame × AHeap) :=
  match p with
  | some (g, fr, _) => match fr.todo with
    | .code (.region _ _ true) :: K => some (g, (seg P 600 (d.frame f K) ⟨d.H.objs, nx⟩).1, (seg P 600 (d.frame f K) ⟨d.H.objs, nx⟩).2)
    | _ => none
  | none => none
noncomputable def q6 : Option (Func × AFrame × AHeap) := @enterCuts Tryz.prog (orcOf Tryz.prog [] []) 6 [.agg (symL 0 11)] []
abbrev base6 : List (Nat × AV) := [(1, .ptr 2000 0), (2, .ptr 2001 0)]
def val6 : Nat → AV
  | 0 => .ptr 2000 0
  | 1 => .sym 1000
  | 2 => .ptr 2000 1
  | 3 => .sym 1001
  | 4 => .sym 2002
  | 5 => .ptr 2000 2
  | 6 => .sym 1002
  | 7 => .sym 2003
  | 8 => .ptr 2000 3
  | 9 => .sym 1003
  | 10 => .sym 2004
  | 11 => .ptr 2000 4
  | 12 => .sym 1004
  | 13 => .sym 2005
  | 14 => .ptr 2000 5
  | 15 => .agg (symL 5 6)
  | 16 => .agg (symR 2006 6)
  | 17 => .agg ([.sym 1000, .sym 2002, .sym 2003, .sym 2004, .sym 2005] ++ symR 2006 6)
  | _ => .undef
def call6 : Nat → FuncId × List AV
  | 4 => (15, [.sym 1001])
  | 7 => (16, [.sym 1002])
  | 10 => (17, [.sym 1003])
  | 13 => (18, [.sym 1004])
  | _ => (19, [.agg (symL 5 6)])
noncomputable def d6 : Draw := { ops := opsOf q6, ms := (befores [] (opsOf q6).toList).getD [], base := base6, val := val6, hands := [4, 7, 10, 13, 16], call := call6, n := nOf q6, H := heapOf q6 }
theorem dh6 : drawHead q6 base6 = true := by kernel_rfl
theorem d6ok : d6.Ok Tryz.prog := ⟨by kernel_rfl, Nat.lt_of_succ_le (Nat.le_of_ble_eq_true (by kernel_rfl)), by kernel_rfl, by kernel_rfl, by kernel_rfl, by kernel_rfl, by kernel_rfl, by kernel_rfl⟩
theorem next6 : (heapOf q6).next = 2002 := by kernel_rfl
noncomputable def e6 : Option (Func × AFrame × AHeap) := @drawEnd Tryz.prog (orcOf Tryz.prog [] []) q6 d6 6 2012
theorem stop6 : @retOf? Tryz.prog (orcOf Tryz.prog [] []) e6 = some (.agg ([.sym 1000, .sym 2002, .sym 2003, .sym 2004, .sym 2005] ++ symR 2006 6)) := by kernel_rfl
end Go.Am
set_option linter.unusedSectionVars false
namespace Go.Am
open Go.Proofs
abbrev F18s : List (Nat × AV) := [(0, .sym 1000)]
noncomputable def q18s : Option (Func × AFrame × AHeap) := @enterCuts Tryz.prog (orcOf Tryz.prog [] []) 18 [.sym 1000] []
theorem lf18s : LoopFacts q18s 1001 4 3 0 F18s := ⟨by kernel_rfl, by kernel_rfl, by kernel_rfl⟩
abbrev es18s : List Ent := ent5 25 95 6 0 2 3 4 5 6
abbrev end18s : List Ent := ent2 25 0 2 3
theorem ty25s : appTyOk Tryz.prog 25 25 95 6 = true := by kernel_rfl
def cuts18s : List Cut := []
noncomputable def i18s : Option (Func × AFrame × AHeap) := @roundCutsH Tryz.prog (orcOf Tryz.prog es18s []) q18s ((3, .sym 1001) :: F18s) 4 2 cuts18s
abbrev FI18s : List (Nat × AV) := [(0, .sym 1000), (3, .sym 1001), (4, .sym 1002), (5, .ptr 2000 0)]
theorem lfi18s : LoopFacts i18s 1012 7 6 1 FI18s := ⟨by kernel_rfl, by kernel_rfl, by kernel_rfl⟩
abbrev es18b : List Ent := ent5 93 97 4 11 13 14 15 16 17
def cuts18b : List Cut := [.call 35 [.sym 1019] none 2002, .push 93 93 4 (.sym 1012) [.sym 1017, .sym 1018, .sym 2002, .sym 1020] 2004]
noncomputable def r18b : Option (Func × AFrame × AHeap) := @roundCutsH Tryz.prog (orcOf Tryz.prog es18b []) i18s ((6, .sym 1012) :: FI18s) 7 13 cuts18b
theorem rf18b : RoundFacts i18s r18b 7 6 1 1016 2004 FI18s := ⟨by kernel_rfl, by kernel_rfl, by kernel_rfl⟩
theorem ty93s : appTyOk Tryz.prog 93 93 97 4 = true := by kernel_rfl
abbrev end18b : List Ent := ent3 93 11 13 14 2 5
def cuts18c : List Cut := [.push 25 25 6 (.sym 1001) [.sym 1006, .sym 1007, .sym 1008, .sym 1009, .sym 1010, .sym 1012] 2002]
noncomputable def r18s : Option (Func × AFrame × AHeap) := @roundCutsH Tryz.prog (orcOf Tryz.prog end18b []) i18s ((6, .sym 1012) :: FI18s) 7 13 cuts18c
theorem rf18s : RoundFacts q18s r18s 4 3 0 1005 2002 F18s := ⟨by kernel_rfl, by kernel_rfl, by kernel_rfl⟩
noncomputable def e18s : Option (Func × AFrame × AHeap) := @roundCutsH Tryz.prog (orcOf Tryz.prog end18s []) q18s ((3, .sym 1001) :: F18s) 4 2 []
theorem stop18s : @retOf? Tryz.prog (orcOf Tryz.prog end18s []) e18s = some (.sym 1001) := by kernel_rfl
theorem k18 (n : Nat) {x : List T} (hs : SizeOf.sizeOf x < n + 1) (hf : fitsL x) (hx : x.length < big) : Clone1 Tryz.prog tab 18 25 x := by
    intro w v hv
    have sx := seq_slice hv
    have hu : und Tryz.prog 25 = some (.slice 95) := by kernel_rfl
    have ha : aggP Tryz.prog 95 = some true := by kernel_rfl
    have hz : sizeP Tryz.prog 95 = some 6 := by kernel_rfl
    have hu' : und Tryz.prog 93 = some (.slice 97) := by kernel_rfl
    have ha' : aggP Tryz.prog 97 = some true := by kernel_rfl
    have hz' : sizeP Tryz.prog 97 = some 4 := by kernel_rfl
    obtain ⟨x0, hx0⟩ := head_some lf18s.head
    have hes : ∀ e ∈ ([] : List Ent), EntOk Tryz.prog [v] w e := fun _ h => by cases h
    have hcs : ∀ e ∈ ([] : List CEnt), CallOk Tryz.prog ([v]) w e := fun _ h => by cases h
    letI : Orc Tryz.prog := orcOf Tryz.prog [] []
    letI : OrcOk Tryz.prog := okOf Tryz.prog [] [] _ w hes hcs
    refine Calls.sit (tb := tab) (V := [v]) (es := []) (cs := []) hes hcs (by simp) hx0 (by
      simp only [RelL]
      exact ⟨_, _, rfl, sym_rel (k := 0) rfl (slice_one sx), rfl⟩) fun ks c b hcut hg S => ?_
    simp only [runCuts, Option.some.injEq] at hcut
    refine S.seg mixes 600 fun ρ7 w7 c7 e7 S7 => ?_
    rw [hcut] at S7
    refine S7.loop hx0 hg lf18s rfl (by simp) (fun q hq => absurd hq List.not_mem_nil) 95 6 fun B K hl _ c8 h8 => ?_
    refine Ends.each (N := x.length) (A := fun i w' c => ∃ out, Head Tryz.prog w tab [v] (heapOf q18s) F18s [] [] 3 ⟨out, 95, 6, x.take i⟩ 4 (i : Nat) 18 x0.2.1.n B K (ρ7.only [v]) w' c) (fun i w2 c2 hlt ⟨out, h⟩ next => ?_) (fun w2 c2 ⟨out, h⟩ => ?_) ⟨_, h8⟩
    · obtain ⟨b, off, cap, ys, us, p1, p2, p3, _, p4, p5, p6⟩ := seq_at (E := 95) rfl hv (List.getElem?_eq_getElem hlt)
      have hxi : x[i]? = some (.row ys) := by rw [List.getElem?_eq_getElem hlt, p4]
      have lu : us.length = 6 := p5.len.1
      obtain ⟨z5, y5, f5, g5, h5⟩ := p5.at 5 93 rfl
      obtain ⟨l5, rfl⟩ := rd_seq h5 rfl
      obtain ⟨s5, b5, t5⟩ := sub_at (n := n) (by omega) hf hxi _ _ g5
      have P1 : ∀ (j : Nat) z, us[j]? = some z → ([v] ++ (out :: Value.int .i64 (i : Nat) :: ([.int .i64 x.length, .pointer (some ⟨b, off + i * 6, none⟩), .int .i64 ((i + 1 : Nat) : Int)] ++ us)))[6 + j]? = some z := fun j z h => by rw [show 6 + j = j + 6 by omega]; exact h
      have hes := ent5Ok (P := Tryz.prog) (W := w) (V := [v] ++ (out :: Value.int .i64 (i : Nat) :: ([.int .i64 x.length, .pointer (some ⟨b, off + i * 6, none⟩), .int .i64 ((i + 1 : Nat) : Int)] ++ us))) hu ha hz (by decide) sx hlt hx p1 p2 p3 lu p5.ones p6 0 2 3 4 5 6 rfl rfl rfl rfl rfl P1
      have hcs : ∀ e ∈ ([] : List CEnt), CallOk Tryz.prog ([v] ++ (out :: Value.int .i64 (i : Nat) :: ([.int .i64 x.length, .pointer (some ⟨b, off + i * 6, none⟩), .int .i64 ((i + 1 : Nat) : Int)] ++ us))) w e := fun _ h => by cases h
      letI : Orc Tryz.prog := orcOf Tryz.prog es18s []
      letI : OrcOk Tryz.prog := okOf Tryz.prog es18s [] _ w hes hcs
      obtain ⟨q0, S⟩ := Head.sit (es := es18s) (cs := []) (ks := ks) hl.plain h hes hcs (by simp [lu])
      simp only [List.length_singleton, Nat.reduceAdd] at S
      obtain ⟨y0, hr⟩ := head_some lfi18s.head
      obtain ⟨hcut, hgg⟩ := hl.cutsH _ hr
      have hn := runCuts_n hcut
      simp only [cuts18s, runCuts, Option.some.injEq] at hcut
      refine S.seg mixes 600 fun ρS1 wS1 cS1 e1 S1 => ?_
      rw [hcut] at S1
      refine S1.loop hr (by rw [hgg]; exact hg) lfi18s (by simp [lu]) (by simp [lu]) (fun q hq => absurd hq List.not_mem_nil) 97 4 fun B' K' hl' _ c9 h9 => ?_
      have le0 := Head.only h (more := out :: Value.int .i64 (i : Nat) :: ([.int .i64 x.length, .pointer (some ⟨b, off + i * 6, none⟩), .int .i64 ((i + 1 : Nat) : Int)] ++ us)) (q0.trans e1)
      have sx' := seq_slice h5
      refine Ends.each (N := l5.length) (A := fun k w' c => ∃ out', Head Tryz.prog w tab ([v] ++ (out :: Value.int .i64 (i : Nat) :: ([.int .i64 x.length, .pointer (some ⟨b, off + i * 6, none⟩), .int .i64 ((i + 1 : Nat) : Int)] ++ us))) (heapOf i18s) FI18s [] [⟨out, 95, 6, x.take i⟩] 6 ⟨out', 97, 4, l5.take k⟩ 7 (k : Nat) 18 y0.2.1.n B' K' (ρS1.only ([v] ++ (out :: Value.int .i64 (i : Nat) :: ([.int .i64 x.length, .pointer (some ⟨b, off + i * 6, none⟩), .int .i64 ((i + 1 : Nat) : Int)] ++ us)))) w' c) (fun k w3 c3 hlt' ⟨out', h'⟩ next' => ?_) (fun w3 c3 ⟨out', h'⟩ => ?_) ⟨_, h9⟩
      · obtain ⟨b', off', cap', ys', us', p1', p2', p3', _, p4', p5', p6'⟩ := seq_at (E := 97) rfl h5 (List.getElem?_eq_getElem hlt')
        have hxi' : l5[k]? = some (.row ys') := by rw [List.getElem?_eq_getElem hlt', p4']
        have lu' : us'.length = 4 := p5'.len.1
        obtain ⟨z2', y2', f2', g2', h2'⟩ := p5'.at 2 74 rfl
        obtain ⟨l2', rfl⟩ := rd_seq h2' rfl
        obtain ⟨s2', b2', t2'⟩ := sub_at (n := n) (by omega) t5 hxi' _ _ g2'
        have P0' : ∀ (j : Nat) {more : List Value}, (([v] ++ (out :: Value.int .i64 (i : Nat) :: ([.int .i64 x.length, .pointer (some ⟨b, off + i * 6, none⟩), .int .i64 ((i + 1 : Nat) : Int)] ++ us))) ++ more)[12 + j]? = more[j]? := fun j more => at_app (by simp [lu])
        have P1' : ∀ (j : Nat) z, us'[j]? = some z → (([v] ++ (out :: Value.int .i64 (i : Nat) :: ([.int .i64 x.length, .pointer (some ⟨b, off + i * 6, none⟩), .int .i64 ((i + 1 : Nat) : Int)] ++ us))) ++ (out' :: Value.int .i64 (k : Nat) :: ([.int .i64 l5.length, .pointer (some ⟨b', off' + k * 4, none⟩), .int .i64 ((k + 1 : Nat) : Int)] ++ us')))[17 + j]? = some z := fun j z h => by rw [show 17 + j = 12 + (5 + j) by omega, P0', show 5 + j = j + 5 by omega]; exact h
        have hes := ent5Ok (P := Tryz.prog) (W := w) (V := ([v] ++ (out :: Value.int .i64 (i : Nat) :: ([.int .i64 x.length, .pointer (some ⟨b, off + i * 6, none⟩), .int .i64 ((i + 1 : Nat) : Int)] ++ us))) ++ (out' :: Value.int .i64 (k : Nat) :: ([.int .i64 l5.length, .pointer (some ⟨b', off' + k * 4, none⟩), .int .i64 ((k + 1 : Nat) : Int)] ++ us'))) hu' ha' hz' (by decide) sx' hlt' b5 p1' p2' p3' lu' p5'.ones p6' 11 13 14 15 16 17 (at_left (P1 5 _ f5)) (P0' 1) (P0' 2) (P0' 3) (P0' 4) P1'
        have hcs : ∀ e ∈ ([] : List CEnt), CallOk Tryz.prog (([v] ++ (out :: Value.int .i64 (i : Nat) :: ([.int .i64 x.length, .pointer (some ⟨b, off + i * 6, none⟩), .int .i64 ((i + 1 : Nat) : Int)] ++ us))) ++ (out' :: Value.int .i64 (k : Nat) :: ([.int .i64 l5.length, .pointer (some ⟨b', off' + k * 4, none⟩), .int .i64 ((k + 1 : Nat) : Int)] ++ us'))) w e := fun _ h => by cases h
        letI : Orc Tryz.prog := orcOf Tryz.prog es18b []
        letI : OrcOk Tryz.prog := okOf Tryz.prog es18b [] _ w hes hcs
        obtain ⟨q0', S⟩ := Head.sit (es := es18b) (cs := []) (ks := ks) hl'.plain h' hes hcs (by simp [lu, lu'])
        simp only [show ([v] ++ (out :: Value.int .i64 (i : Nat) :: ([.int .i64 x.length, .pointer (some ⟨b, off + i * 6, none⟩), .int .i64 ((i + 1 : Nat) : Int)] ++ us))).length = 12 by simp [lu], Nat.reduceAdd] at S
        obtain ⟨y1, hr1, _⟩ := round_some hl' rf18b.todo
        obtain ⟨hcut, _⟩ := hl'.cutsH _ hr1
        have hn1 := runCuts_n hcut
        obtain ⟨r1, kb1, hcut⟩ := runCuts_cons hcut
        obtain ⟨r2, kb2, hcut⟩ := runCuts_cons hcut
        obtain ⟨nb1, kb1⟩ := cut_call kb1
        try dsimp only at nb1 kb1
        obtain ⟨nb2, kb2⟩ := cut_push kb2
        try dsimp only at nb2 kb2
        simp only [runCuts, Option.some.injEq] at hcut
        refine S.seg mixes 600 fun ρS1 wS1 cS1 e1 S1 => ?_
        refine S1.call kb1 (S1.base _ _ (renOf_sym (k := 19) (P1' 2 _ f2'))) (h2'.grows S1.since) (k35 n s2' t2' b2') fun ρS1x wS1x cS1x ub2 eS1x S1x => ?_
        rw [nb1] at S1x
        refine S1x.seg mixes 600 fun ρS1xy wS1xy cS1xy eS1xy S1xy => ?_
        have hrow : rowIs tab [⟨2002, ub2, .seq l2', 74⟩] 17 (tab.flat 97) ys' [.sym 1017, .sym 1018, .sym 2002, .sym 1020] := by
          have hv' := p5'
          simp only [tab, RdVals] at hv'
          obtain ⟨_, _, e0, _, _, rfl, _, _, _, e1, _, _, rfl, _, _, _, e2, _, _, rfl, _, _, _, e3, _, _, rfl, _, _, rfl⟩ := hv'
          simp only [List.getElem?_cons_succ, List.getElem?_cons_zero, Option.some.injEq] at g2'
          subst g2'
          exact ⟨_, _, _, _, rfl, rfl, Or.inl ⟨rfl, rfl⟩, _, _, _, _, rfl, rfl, Or.inl ⟨rfl, rfl⟩, _, _, _, _, rfl, rfl, Or.inr ⟨_, List.mem_of_getElem? (i := 0) rfl, rfl, rfl, rfl⟩, _, _, _, _, rfl, rfl, Or.inl ⟨rfl, rfl⟩, rfl, rfl⟩
        refine S1xy.push kb2 (appTy ty93s) (S1xy.base _ _ (renOf_sym (k := 12) (P0' 0))) (take_small b5 k) (row := ys') (S1xy.row (b0 := 17) hrow p5' P1') fun ρ4 w4 c4 out2 e4 m4 mo S4 => ?_
        rw [nb2] at m4
        refine S4.seg mixes 600 fun ρ5 w5 c5 e5 S5 => ?_
        rw [hcut] at S5
        refine S5.round h' hl' hr1 rf18b lfi18s (q0'.trans (e1.trans (eS1x.trans (eS1xy.trans (e4.trans e5))))) hn1 (S5.base _ _ (renOf_sym (k := 16) (P0' 4))) (e5 _ _ m4) mo (fun q hq => (List.mem_cons_of_mem _ hq)) fun c6 h6 => next' w5 c6 ⟨out2, ?_⟩
        rw [take_next hxi']
        exact h6
      · have P0' : ∀ (j : Nat) {more : List Value}, (([v] ++ (out :: Value.int .i64 (i : Nat) :: ([.int .i64 x.length, .pointer (some ⟨b, off + i * 6, none⟩), .int .i64 ((i + 1 : Nat) : Int)] ++ us))) ++ more)[12 + j]? = more[j]? := fun j more => at_app (by simp [lu])
        have hes := ent3Ok (P := Tryz.prog) (W := w) (V := ([v] ++ (out :: Value.int .i64 (i : Nat) :: ([.int .i64 x.length, .pointer (some ⟨b, off + i * 6, none⟩), .int .i64 ((i + 1 : Nat) : Int)] ++ us))) ++ (out' :: Value.int .i64 (l5.length : Nat) :: [.int .i64 l5.length])) (k := i) hu' sx' 11 13 14 2 5 (at_left (P1 5 _ f5)) (P0' 1) (P0' 2) (by have := lift hx; omega) (at_left rfl) (at_left rfl)
        have hcs : ∀ e ∈ ([] : List CEnt), CallOk Tryz.prog (([v] ++ (out :: Value.int .i64 (i : Nat) :: ([.int .i64 x.length, .pointer (some ⟨b, off + i * 6, none⟩), .int .i64 ((i + 1 : Nat) : Int)] ++ us))) ++ (out' :: Value.int .i64 (l5.length : Nat) :: [.int .i64 l5.length])) w e := fun _ h => by cases h
        letI : Orc Tryz.prog := orcOf Tryz.prog end18b []
        letI : OrcOk Tryz.prog := okOf Tryz.prog end18b [] _ w hes hcs
        obtain ⟨q0', S⟩ := Head.sit (es := end18b) (cs := []) (ks := ks) hl'.plain h' hes hcs (by simp [lu])
        simp only [show ([v] ++ (out :: Value.int .i64 (i : Nat) :: ([.int .i64 x.length, .pointer (some ⟨b, off + i * 6, none⟩), .int .i64 ((i + 1 : Nat) : Int)] ++ us))).length = 12 by simp [lu], Nat.reduceAdd] at S
        obtain ⟨y1, hr1, _⟩ := round_some hl rf18s.todo
        obtain ⟨hcut, _⟩ := hl'.cutsH _ hr1
        have hn1 := runCuts_n hcut
        obtain ⟨r1, kc1, hcut⟩ := runCuts_cons hcut
        obtain ⟨nc1, kc1⟩ := cut_push kc1
        try dsimp only at nc1 kc1
        simp only [runCuts, Option.some.injEq] at hcut
        refine S.seg mixes 600 fun ρS1 wS1 cS1 e1 S1 => ?_
        have S2 := S1.close (j := 1012) (t := 93) (S1.base _ _ (renOf_sym (k := 12) (P0' 0))) rfl rfl (Nat.succ_pos 3)
        have hrow : rowIs tab [⟨1012, out', .seq (l5.take l5.length), 93⟩] 6 (tab.flat 95) ys [.sym 1006, .sym 1007, .sym 1008, .sym 1009, .sym 1010, .sym 1012] := by
          have hv' := p5
          simp only [tab, RdVals] at hv'
          obtain ⟨_, _, e0, _, _, rfl, _, _, _, e1, _, _, rfl, _, _, _, e2, _, _, rfl, _, _, _, e3, _, _, rfl, _, _, _, e4, _, _, rfl, _, _, _, e5, _, _, rfl, _, _, rfl⟩ := hv'
          simp only [List.getElem?_cons_succ, List.getElem?_cons_zero, Option.some.injEq] at g5
          subst g5
          rw [List.take_length]
          exact ⟨_, _, _, _, rfl, rfl, Or.inl ⟨rfl, rfl⟩, _, _, _, _, rfl, rfl, Or.inl ⟨rfl, rfl⟩, _, _, _, _, rfl, rfl, Or.inl ⟨rfl, rfl⟩, _, _, _, _, rfl, rfl, Or.inl ⟨rfl, rfl⟩, _, _, _, _, rfl, rfl, Or.inl ⟨rfl, rfl⟩, _, _, _, _, rfl, rfl, Or.inr ⟨_, List.mem_of_getElem? (i := 0) rfl, rfl, rfl, rfl⟩, rfl, rfl⟩
        refine S2.push kc1 (appTy ty25s) (S2.base _ _ (renOf_sym (k := 1) (at_left rfl))) (take_small hx i) (row := ys) (S2.row (b0 := 6) hrow p5 (fun j z h => at_left (P1 j z h))) fun ρ4 w4 c4 out2 e4 m4 mo S4 => ?_
        rw [nc1] at m4
        refine S4.seg mixes 600 fun ρ5 w5 c5 e5 S5 => ?_
        rw [hcut] at S5
        refine S5.round h hl hr1 rf18s lf18s (le0.trans (q0'.trans (e1.trans (e4.trans e5)))) (hn1.trans hn) (S5.base _ _ (renOf_sym (k := 5) (at_left rfl))) (e5 _ _ m4) mo (fun q hq => absurd hq List.not_mem_nil) fun c6 h6 => next w5 c6 ⟨out2, ?_⟩
        rw [take_next hxi]
        exact h6
    · have hes := ent2Ok (P := Tryz.prog) (W := w) (V := [v] ++ (out :: Value.int .i64 (x.length : Nat) :: [.int .i64 x.length])) hu sx 0 2 3 rfl rfl rfl
      have hcs : ∀ e ∈ ([] : List CEnt), CallOk Tryz.prog ([v] ++ (out :: Value.int .i64 (x.length : Nat) :: [.int .i64 x.length])) w e := fun _ h => by cases h
      letI : Orc Tryz.prog := orcOf Tryz.prog end18s []
      letI : OrcOk Tryz.prog := okOf Tryz.prog end18s [] _ w hes hcs
      obtain ⟨q0, S⟩ := Head.sit (es := end18s) (cs := []) (ks := ks) hl.plain h hes hcs (by simp)
      simp only [List.length_singleton, Nat.reduceAdd] at S
      obtain ⟨y0, hr⟩ := ret_some stop18s
      obtain ⟨hcut, hgg⟩ := hl.cutsH _ hr
      simp only [runCuts, Option.some.injEq] at hcut
      refine S.seg mixes 600 fun ρS1 wS1 cS1 e1 S1 => ?_
      rw [hcut] at S1
      have S2 := S1.close (j := 1001) (t := 25) (S1.base _ _ (renOf_sym (k := 1) rfl)) rfl rfl (Nat.succ_pos 5)
      refine S2.ret (by rw [hgg]; exact hg) hr stop18s fun u hu gr => ?_
      have e := sym_is (S2.named _ List.mem_cons_self) hu
      have dd := S2.data.facts _ List.mem_cons_self
      simp only [List.take_length] at dd
      simp only at e
      subst e
      exact ⟨_, rfl, ⟨[_], rfl, dd.one⟩, gr, RdC.mono (Nat.le_refl _) (fun _ _ _ => rfl) (fun b hb => ⟨hb.1, hb.2.1⟩) _ dd⟩
end Go.Am
