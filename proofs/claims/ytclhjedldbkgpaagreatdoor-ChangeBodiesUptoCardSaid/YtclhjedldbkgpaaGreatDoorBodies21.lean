/-
  Part 21 of the proof that winch/winchlaw25.ChangeBodies returns true for every two bodies of small bulk: lemmas.
  Conditions: none beyond each theorem's own premises.
  What lies here:
  The midst of a run, told by what memory holds: finished data, slices that are being appended to.
  Loops' heads, told by what memory holds: from a run to a head, from a head to a round, from a round's end to the head.
  Answers in a loop over a sequence; rows of symbols.
-/
import Derived.Test.YtclhjedldbkgpaaGreatDoorBodies20
set_option linter.unusedVariables false
set_option linter.unusedSimpArgs false
set_option linter.unusedSectionVars false
namespace Go.Am

/-- A slice that is being appended to, and the rows that it has by now. -/
structure Grow where
  v : Value
  E : TypeId
  m : Nat
  rows : List T
/-- The blocks of finished data: made by this call, no own object's, of no slice that is being appended to. -/
def Good (n0 : Nat) (ρ : Ren) (H : AHeap) (w : World) (outs : List Grow) : Nat → Prop :=
  fun b => n0 ≤ b ∧ b < w.heap.size ∧ (∀ i y l, H.get i = some y → y.own = true → ρ i = some l → l.b ≠ b) ∧ ∀ o ∈ outs, ¬ blockIs o.v b
/-- What memory holds. -/
structure Data (tb : Tab) (n0 : Nat) (made : List Fact) (outs : List Grow) (ρ : Ren) (H : AHeap) (w : World) : Prop where
  size : n0 ≤ w.heap.size
  facts : ∀ q ∈ made, RdC tb (Good n0 ρ H w outs) w q.t q.z q.x
  grow : ∀ o ∈ outs, ∃ cells, Out w n0 o.E o.m o.v cells o.rows.length ∧ Cells tb (Good n0 ρ H w outs) w o.E cells o.rows
  own : ∀ o ∈ outs, ∀ b, blockIs o.v b → ∀ i y l, H.get i = some y → y.own = true → ρ i = some l → l.b ≠ b
  apart : outs.Pairwise fun a b => ∀ x, blockIs a.v x → ¬ blockIs b.v x
section
variable {tb : Tab} {n0 : Nat} {made made' : List Fact} {outs rest : List Grow} {ρ ρ' : Ren} {H H' : AHeap} {w w' : World} {o : Grow}
theorem Data.block (d : Data tb n0 made outs ρ H w) (ho : o ∈ outs) {b : Nat} (hb : blockIs o.v b) : n0 ≤ b ∧ b < w.heap.size := by
  obtain ⟨cells, h1, _⟩ := d.grow o ho
  exact h1.block hb
theorem Data.move (d : Data tb n0 made outs ρ H w) (hs : w.heap.size ≤ w'.heap.size)
    (hk : ∀ b, n0 ≤ b → b < w.heap.size → (∀ i y l, H.get i = some y → y.own = true → ρ i = some l → l.b ≠ b) → w'.heap[b]? = w.heap[b]?)
    (ho : ∀ i y l, H'.get i = some y → y.own = true → ρ' i = some l → l.b < w.heap.size → ∃ j y' l', H.get j = some y' ∧ y'.own = true ∧ ρ j = some l' ∧ l'.b = l.b) : Data tb n0 made outs ρ' H' w' := by
  have good : ∀ b, Good n0 ρ H w outs b → Good n0 ρ' H' w' outs b := fun b hb => ⟨hb.1, Nat.lt_of_lt_of_le hb.2.1 hs, fun i y l h1 h2 h3 e => by
    obtain ⟨j, y', l', k1, k2, k3, k4⟩ := ho i y l h1 h2 h3 (e ▸ hb.2.1)
    exact hb.2.2.1 j y' l' k1 k2 k3 (k4.trans e), hb.2.2.2⟩
  refine ⟨Nat.le_trans d.size hs, fun q hq => RdC.mono hs (fun b hb _ => hk b hb.1 hb.2.1 hb.2.2.1) good q.x (d.facts q hq), fun o h => ?_, fun o h b hb i y l h1 h2 h3 e => ?_, d.apart⟩
  · obtain ⟨cells, q1, q2⟩ := d.grow o h
    exact ⟨cells, q1.keep hs fun b hb => hk b (q1.block hb).1 (q1.block hb).2 (d.own o h b hb), q2.mono hs (fun b hb _ => hk b hb.1 hb.2.1 hb.2.2.1) good⟩
  · obtain ⟨j, y', l', k1, k2, k3, k4⟩ := ho i y l h1 h2 h3 (e ▸ (d.block h hb).2)
    exact d.own o h b hb j y' l' k1 k2 k3 (k4.trans e)
theorem Data.ext (d : Data tb n0 made outs ρ H w) (x : Ext ρ H w ρ' H' w') : Data tb n0 made outs ρ' H' w' :=
  d.move x.size (fun b _ hb hn => x.kept b hb hn) x.owned
theorem Data.add {S : Nat → Prop} (d : Data tb n0 made outs ρ H w) (fs : List Fact) (hq : ∀ q ∈ fs, RdC tb S w q.t q.z q.x) (hS : ∀ b, S b → Good n0 ρ H w outs b) : Data tb n0 (fs ++ made) outs ρ H w :=
  ⟨d.size, fun q h => by
    rcases List.mem_append.1 h with h | h
    · exact RdC.mono (Nat.le_refl _) (fun _ _ _ => rfl) hS q.x (hq q h)
    · exact d.facts q h, d.grow, d.own, d.apart⟩
theorem Data.sub (d : Data tb n0 made outs ρ H w) (h : ∀ q ∈ made', q ∈ made) : Data tb n0 made' outs ρ H w := ⟨d.size, fun q hq => d.facts q (h q hq), d.grow, d.own, d.apart⟩
/-- A slice that is appended to no more is data. -/
theorem Data.close (d : Data tb n0 made (o :: rest) ρ H w) {j : Nat} {t : TypeId} (he : tb.elem t = some o.E) (hm : (tb.flat o.E).length = o.m) (hm0 : 0 < o.m) : Data tb n0 (⟨j, o.v, .seq o.rows, t⟩ :: made) rest ρ H w := by
  have good : ∀ b, Good n0 ρ H w (o :: rest) b → Good n0 ρ H w rest b := fun b hb => ⟨hb.1, hb.2.1, hb.2.2.1, fun x hx => hb.2.2.2 x (List.mem_cons_of_mem _ hx)⟩
  have hap := List.pairwise_cons.1 d.apart
  refine ⟨d.size, fun q hq => ?_, fun x hx => ?_, fun x hx => d.own x (List.mem_cons_of_mem _ hx), hap.2⟩
  · rcases List.mem_cons.1 hq with rfl | hq
    · obtain ⟨cells, q1, q2⟩ := d.grow o List.mem_cons_self
      exact q1.seq q2 hm hm0 he good fun b hb => ⟨(q1.block hb).1, (q1.block hb).2, d.own o List.mem_cons_self b hb, fun x hx => hap.1 x hx b hb⟩
    · exact RdC.mono (Nat.le_refl _) (fun _ _ _ => rfl) good q.x (d.facts q hq)
  · obtain ⟨cells, q1, q2⟩ := d.grow x (List.mem_cons_of_mem _ hx)
    exact ⟨cells, q1, q2.mono (Nat.le_refl _) (fun _ _ _ => rfl) good⟩
/-- An empty slice. -/
theorem Data.open (d : Data tb n0 made rest ρ H w) (E : TypeId) (m : Nat) : Data tb n0 made (⟨.slice none 0 0, E, m, []⟩ :: rest) ρ H w := by
  have hno : ∀ b, ¬ blockIs (.slice none 0 0) b := fun b ⟨_, _, _, e⟩ => by cases e
  have good : ∀ b, Good n0 ρ H w rest b → Good n0 ρ H w (⟨.slice none 0 0, E, m, []⟩ :: rest) b := fun b hb => ⟨hb.1, hb.2.1, hb.2.2.1, fun x hx => by
    rcases List.mem_cons.1 hx with rfl | hx
    · exact hno b
    · exact hb.2.2.2 x hx⟩
  refine ⟨d.size, fun q hq => RdC.mono (Nat.le_refl _) (fun _ _ _ => rfl) good q.x (d.facts q hq), fun x hx => ?_, fun x hx b hb => ?_, List.pairwise_cons.2 ⟨fun x _ b hb => (hno b hb).elim, d.apart⟩⟩
  · rcases List.mem_cons.1 hx with rfl | hx
    · exact ⟨[], Out.nil _ _ _ _, rfl⟩
    · obtain ⟨cells, q1, q2⟩ := d.grow x hx
      exact ⟨cells, q1, q2.mono (Nat.le_refl _) (fun _ _ _ => rfl) good⟩
  · rcases List.mem_cons.1 hx with rfl | hx
    · exact (hno b hb).elim
    · exact d.own x hx b hb
/-- The same of a smaller memory of the run's own. -/
theorem Data.less (d : Data tb n0 made outs ρ' H' w) (ho : ∀ i y l, H.get i = some y → y.own = true → ρ i = some l → ∃ j y' l', H'.get j = some y' ∧ y'.own = true ∧ ρ' j = some l' ∧ l'.b = l.b) : Data tb n0 made outs ρ H w := by
  have good : ∀ b, Good n0 ρ' H' w outs b → Good n0 ρ H w outs b := fun b hb => ⟨hb.1, hb.2.1, fun i y l h1 h2 h3 e => by
    obtain ⟨j, y', l', k1, k2, k3, k4⟩ := ho i y l h1 h2 h3
    exact hb.2.2.1 j y' l' k1 k2 k3 (k4.trans e), hb.2.2.2⟩
  refine ⟨d.size, fun q hq => RdC.mono (Nat.le_refl _) (fun _ _ _ => rfl) good q.x (d.facts q hq), fun o h => ?_, fun o h b hb i y l h1 h2 h3 e => ?_, d.apart⟩
  · obtain ⟨cells, q1, q2⟩ := d.grow o h
    exact ⟨cells, q1, q2.mono (Nat.le_refl _) (fun _ _ _ => rfl) good⟩
  · obtain ⟨j, y', l', k1, k2, k3, k4⟩ := ho i y l h1 h2 h3
    exact d.own o h b hb j y' l' k1 k2 k3 (k4.trans e)
end
section
variable {P : Program} [Orc P] [OrcOk P] {tb : Tab} {n0 : Nat} {made : List Fact} {outs : List Grow} {ρ ρ' : Ren} {H H' : AHeap} {w w' : World}
theorem Data.hand (d : Data tb n0 made outs ρ H w) (hh : RelH P ρ H w) (hle : ρ.le ρ') (hg : Grows w w') (hget : ∀ i, H'.get i = H.get i) :
    Data tb n0 made outs ρ' H' w' ∧ ∀ b, w.heap.size ≤ b → b < w'.heap.size → Good n0 ρ' H' w' outs b := by
  have same : ∀ i y l, H'.get i = some y → ρ' i = some l → H.get i = some y ∧ ρ i = some l ∧ l.b < w.heap.size := fun i y l h1 h2 => by
    rw [hget] at h1
    obtain ⟨l', k1, k2, _⟩ := hh.obj i y h1
    have := hle _ _ k1
    rw [h2] at this
    cases this
    exact ⟨h1, k1, k2⟩
  have d' : Data tb n0 made outs ρ' H' w' := d.move hg.1 (fun b _ hb _ => hg.2 b hb) fun i y l h1 h2 h3 _ => ⟨i, y, l, (same i y l h1 h3).1, h2, (same i y l h1 h3).2.1, rfl⟩
  refine ⟨d', fun b h1 h2 => ⟨Nat.le_trans d.size h1, h2, fun i y l k1 k2 k3 e => ?_, fun o ho hb => ?_⟩⟩
  · have := (same i y l k1 k3).2.2
    omega
  · have := (d.block ho hb).2
    omega
end

/-- The midst of a run. -/
structure Sit (P : Program) [Orc P] [OrcOk P] (tb : Tab) (f : FuncId) (n0 : Nat) (V : List Value) (made : List Fact) (outs : List Grow) (ρ : Ren) (H : AHeap) (w : World) (fr : AFrame) (c : Frame) (cs : List Frame) : Prop where
  state : At0 P ρ H w fr c cs
  fn : c.fn = f
  keep : ∀ b, b < n0 → OrcOk.keep P b
  size : (OrcOk.W P).heap.size = n0
  base : (renOf V).le ρ
  named : ∀ q ∈ made, ρ q.j = some ⟨0, 0, q.z⟩
  data : Data tb n0 made outs ρ H w
section
variable {P : Program} [Orc P] [OrcOk P] {tb : Tab} {f : FuncId} {n0 : Nat} {V : List Value} {made made' : List Fact} {outs rest : List Grow} {ρ : Ren} {H : AHeap} {w : World} {fr : AFrame} {c : Frame} {cs : List Frame} {R : Ending → World → Prop} {q : AFrame × AHeap} {o : Grow}
theorem Sit.grows (a : Sit P tb f n0 V made outs ρ H w fr c cs) : Grows (OrcOk.W P) w :=
  ⟨a.state.st.heap.wsize, fun b hb => a.state.st.heap.kept b (a.keep b (by rw [← a.size]; exact hb)), a.state.st.heap.still⟩
theorem Sit.seg (hmix : P.follows .mixedOrders = true) (n : Nat) (a : Sit P tb f n0 V made outs ρ H w fr c cs)
    (k : ∀ ρ' w' c', ρ.le ρ' → Sit P tb f n0 V made outs ρ' (Am.seg P n fr H).2 w' (Am.seg P n fr H).1 c' cs → Ends P c' cs w' R) : Ends P c cs w R :=
  a.state.seg hmix n fun ρ' w' c' x st hf => k ρ' w' c' x.le ⟨st, hf.trans a.fn, a.keep, a.size, a.base.trans x.le, fun q hq => x.le _ _ (a.named q hq), a.data.ext x⟩
theorem Sit.by_hand (a : Sit P tb f n0 V made outs ρ H w fr c cs) {ρ' : Ren} {H' : AHeap} {w' : World} {fr' : AFrame} {c' : Frame} {fs : List Fact} (hle : ρ.le ρ') (hg : Grows w w') (hget : ∀ i, H'.get i = H.get i) (st : At0 P ρ' H' w' fr' c' cs) (hf : c'.fn = c.fn)
    (hfs : ∀ q ∈ fs, ρ' q.j = some ⟨0, 0, q.z⟩ ∧ RdC tb (fun b => w.heap.size ≤ b ∧ b < w'.heap.size) w' q.t q.z q.x) : Sit P tb f n0 V (fs ++ made) outs ρ' H' w' fr' c' cs := by
  obtain ⟨d, g⟩ := a.data.hand a.state.st.heap hle hg hget
  exact ⟨st, hf.trans a.fn, a.keep, a.size, a.base.trans hle, fun q hq => by
    rcases List.mem_append.1 hq with hq | hq
    · exact (hfs q hq).1
    · exact hle _ _ (a.named q hq), d.add fs (fun q hq => (hfs q hq).2) fun b hb => g b hb.1 hb.2⟩
/-- Past a clone's call: the argument is a symbol that holds data. -/
theorem Sit.call (a : Sit P tb f n0 V made outs ρ H w fr c cs) {g : FuncId} {j : Nat} {t : TypeId} {z : Value} {x : List T} (h : Am.cutCall P (fr, H) g [.sym j] none = some q) (hz : ρ j = some ⟨0, 0, z⟩) (hr : RdC tb Any w t z (.seq x)) (hc : Clone1 P tb g t x)
    (k : ∀ ρ' w' c' v, ρ.le ρ' → Sit P tb f n0 V (⟨H.next, v, .seq x, t⟩ :: made) outs ρ' q.2 w' q.1 c' cs → Ends P c' cs w' R) : Ends P c cs w R := by
  refine a.state.cutCall h (Q := fun v w' => RdC tb (fun b => w.heap.size ≤ b ∧ b < w'.heap.size) w' t v (.seq x)) (fun args ra => ?_) fun ρ' w' c' v vs h1 h2 h3 h4 h5 h6 h7 => ?_
  · simp only [RelL] at ra
    obtain ⟨z', l', e1, r1, rfl⟩ := ra
    have e2 := sym_is hz r1
    have e3 : args = #[z] := Array.toList_inj.1 (by rw [e1, e2])
    rw [e3]
    exact hc w z hr
  · obtain ⟨rfl, ho⟩ := h2
    exact k ρ' w' c' v h1 (a.by_hand (fs := [⟨H.next, v, .seq x, t⟩]) h1 h3 (cutCall_get h) h6 h7 fun q hq => by rw [List.mem_singleton] at hq; subst hq; exact ⟨h5 0 v rfl, h4⟩)
theorem newFacts_rd {S : Nat → Prop} {w' : World} {ρ' : Ren} {j : Nat} {vs : List Value} {xs : List T} {ts : List TypeId} (h : RdVals tb S w' ts vs xs) (hr : ∀ (i : Nat) z, vs[i]? = some z → ρ' (j + i) = some ⟨0, 0, z⟩) : ∀ q ∈ newFacts j vs xs ts, ρ' q.j = some ⟨0, 0, q.z⟩ ∧ RdC tb S w' q.t q.z q.x := fun q hq =>
  ⟨(newFacts_ok h hr q hq).1, (newFacts_ok h hr q hq).2.2⟩
/-- Past a call that clones a row: the argument's cells are symbols. -/
theorem Sit.callRow (a : Sit P tb f n0 V made outs ρ H w fr c cs) {g : FuncId} {xs : List AV} {E : TypeId} {m : Nat} {zs : List Value} {x : List T} (h : Am.cutCall P (fr, H) g [.agg xs] (some m) = some q) (hm : (tb.flat E).length = m) (hz : ∀ l, RelL ρ xs l → l = zs) (hr : RdVals tb Any w (tb.flat E) zs x) (hc : CloneRow P tb g E x)
    (k : ∀ ρ' w' c' us, ρ.le ρ' → us.length = m → Sit P tb f n0 V (newFacts H.next us x (tb.flat E) ++ made) outs ρ' q.2 w' q.1 c' cs → Ends P c' cs w' R) : Ends P c cs w R := by
  subst hm
  refine a.state.cutCall h (Q := fun v w' => ∃ us, v = .agg us.toArray ∧ RdVals tb (fun b => w.heap.size ≤ b ∧ b < w'.heap.size) w' (tb.flat E) us x) (fun args ra => ?_) fun ρ' w' c' v vs h1 h2 h3 h4 h5 h6 h7 => ?_
  · simp only [RelL, RelV] at ra
    obtain ⟨z', l', e1, ⟨zz, rfl, r1⟩, rfl⟩ := ra
    have e2 := hz _ r1
    have e3 : args = #[.agg zs.toArray] := Array.toList_inj.1 (by rw [e1, ← e2])
    rw [e3]
    exact hc w zs hr
  · obtain ⟨hl, e1, ho⟩ := h2
    obtain ⟨us, e2, hd⟩ := h4
    have e3 : vs = us := by
      rw [e1] at e2
      injection e2 with e2
      injection e2
    subst e3
    exact k ρ' w' c' vs h1 hl (a.by_hand h1 h3 (cutCall_get h) h6 h7 (newFacts_rd hd h5))
/-- Past a copy of a sequence of plain elements. -/
theorem Sit.copy (a : Sit P tb f n0 V made outs ρ H w fr c cs) {t E : TypeId} {m j : Nat} {z : Value} {x : List T} (h : Am.cutCopy (fr, H) t t .nilslice (.sym j) = some q) (ty : AppTy P t t E m) (hz : ρ j = some ⟨0, 0, z⟩) (hr : RdC tb Any w t z (.seq x)) (he : tb.elem t = some E) (hm : (tb.flat E).length = m) (hp : ∀ t ∈ tb.flat E, tb.elem t = none) (hx : x.length ≤ most)
    (k : ∀ ρ' w' c' v, ρ.le ρ' → Sit P tb f n0 V (⟨H.next, v, .seq x, t⟩ :: made) outs ρ' q.2 w' q.1 c' cs → Ends P c' cs w' R) : Ends P c cs w R := by
  refine a.state.cutCopy h fun s' x' rs rx a1 => ?_
  simp only [RelV] at rs
  subst rs
  have e2 := sym_is hz rx
  subst e2
  have hsrc : ∃ cells, Cells tb Any w E cells x ∧ (Builtin.lenOf x').run P w = .ok x.length w ∧ ∀ w' : World, w'.heap = w.heap → (Builtin.firstCells m x.length x').run P w' = .ok cells.toArray w' := by
    simp only [RdC] at hr
    obtain ⟨E', he', h2⟩ := hr
    rw [he] at he'
    cases he'
    rcases h2 with ⟨rfl, bs, rfl⟩ | ⟨b, off, cap, rfl, h2, h3, _, h5⟩
    · refine ⟨[], rfl, rfl, fun w2 _ => ?_⟩
      cases bs with
      | none => rfl
      | some ad =>
        have := run_loadCells_list (P := P) w2 ad [] (fun j z h => by simp at h)
        simpa [Builtin.firstCells] using this
    · obtain ⟨cells, q1, q2⟩ := h5.cells
      refine ⟨cells, q1, rfl, fun w' hw' => ?_⟩
      have hl := q1.len hm
      have hr := run_loadCells_list (P := P) w' ⟨b, off, none⟩ cells (fun j z hj => by
        rw [cell_same hw', addr_add]
        exact q2 j z hj)
      rw [hl] at hr
      simpa [Builtin.firstCells] using hr
  obtain ⟨cells, hc, hlen, hf⟩ := hsrc
  have hcl := hc.len hm
  obtain ⟨v, w', r1, r2, r3, r4, r5, r6⟩ := out_app ty (Out.nil w w.heap.size E m) (Nat.le_refl _) hlen hf (by simpa using hcl) (by simpa using hc.ones) (by omega) a1
  have gr : Grows w w' := ⟨r3, fun b hb => r4 b hb fun ⟨_, _, _, e⟩ => (by cases e), r6⟩
  have hfresh : ∀ b, blockIs v b → w.heap.size ≤ b := fun b hb => by
    rcases r5 b hb with ⟨_, _, _, e⟩ | h
    · cases e
    · exact h
  refine ⟨v, w', r1, r2.one, r3, fun i y l h1 h2 => ?_, fun b hb => gr.2 b (Nat.lt_of_lt_of_le (OrcOk.inW b hb) a.state.st.heap.wsize), gr.3, fun ρ' c' g1 g2 g3 g4 => ?_⟩
  · obtain ⟨l', k1, k2, _⟩ := a.state.st.heap.obj i y h1
    rw [h2] at k1
    cases k1
    exact gr.2 _ k2
  · have this : RdC tb (fun b => w.heap.size ≤ b ∧ b < w'.heap.size) w' t v (.seq x) :=
      Out.seq (S := fun _ => False) (by simpa using r2) (Cells.plain hp hc) hm ty.pos he (fun _ h => h.elim) fun b hb => ⟨hfresh b hb, (r2.block hb).2⟩
    exact k ρ' w' c' v g1 (a.by_hand (fs := [⟨H.next, v, .seq x, t⟩]) g1 gr (cutCopy_get h) g3 g4 fun q hq => by rw [List.mem_singleton] at hq; subst hq; exact ⟨g2, this⟩)
/-- Past an append of one row. -/
theorem Sit.push (a : Sit P tb f n0 V made (o :: rest) ρ H w fr c cs) {t : TypeId} {jo : Nat} {new : List AV} (h : Am.cutPush (fr, H) t t o.m (.sym jo) new = some q) (ty : AppTy P t t o.E o.m) (hz : ρ jo = some ⟨0, 0, o.v⟩) (hk : o.rows.length < big) {row : List T}
    (hrow : ∀ l, RelL ρ new l → RdVals tb (Good n0 ρ H w (o :: rest)) w (tb.flat o.E) l row)
    (k : ∀ ρ' w' c' out', ρ.le ρ' → ρ' H.next = some ⟨0, 0, out'⟩ → out'.oneCell' = true → Sit P tb f n0 V made (⟨out', o.E, o.m, o.rows ++ [.row row]⟩ :: rest) ρ' q.2 w' q.1 c' cs → Ends P c' cs w' R) : Ends P c cs w R := by
  have hq := cutPush_get h
  have hlow : ∀ i y l, H.get i = some y → ρ i = some l → l.b < w.heap.size := fun i y l h1 h2 => by
    obtain ⟨l', k1, k2, _⟩ := a.state.st.heap.obj i y h1
    rw [h2] at k1
    cases k1
    exact k2
  obtain ⟨cells, ho, hc⟩ := a.data.grow o List.mem_cons_self
  have hob : ∀ b, blockIs o.v b → n0 ≤ b ∧ b < w.heap.size := fun b hb => ho.block hb
  refine a.state.cutPush h fun s' x' c1 rs hlen hf hr1 hsz hown a1 => ?_
  have e1 := sym_is hz rs
  subst e1
  have hrow' := hrow _ hr1
  obtain ⟨out', w6, r1, r2, r3, r4, r5, r6⟩ := out_app ty ho a.data.size hlen hf hsz (fun z hz => by
    obtain ⟨j, hj, rfl⟩ := List.getElem_of_mem hz
    exact hrow'.ones j _ (List.getElem?_eq_getElem hj)) (by show _ + 1 ≤ 16777216; have : o.rows.length < 16777216 := hk; omega) a1
  have hnot : ∀ i y l, H.get i = some y → ρ i = some l → ¬ blockIs o.v l.b := fun i y l h1 h2 hb => a.data.own o List.mem_cons_self _ hb i y l h1 (hown i y h1) h2 rfl
  refine ⟨out', w6, r1, r2.one, r3, fun i y l h1 h2 => r4 _ (hlow i y l h1 h2) (hnot i y l h1 h2), fun b hb => ?_, r6, fun ρ' c' g1 g2 g3 g4 => ?_⟩
  · have hb1 := OrcOk.inW b hb
    rw [a.size] at hb1
    exact r4 b (Nat.lt_of_lt_of_le hb1 a.data.size) fun hb => by have := hob _ hb; omega
  · have same : ∀ i y l, q.2.get i = some y → ρ' i = some l → H.get i = some y ∧ ρ i = some l := fun i y l h1 h2 => by
      rw [hq] at h1
      have h1 : H.get i = some y := h1
      obtain ⟨l', k1, k2, _⟩ := a.state.st.heap.obj i y h1
      have := g1 _ _ k1
      rw [h2] at this
      cases this
      exact ⟨h1, k1⟩
    have hap := List.pairwise_cons.1 a.data.apart
    have good : ∀ b, Good n0 ρ H w (o :: rest) b → Good n0 ρ' q.2 w6 (⟨out', o.E, o.m, o.rows ++ [.row row]⟩ :: rest) b := fun b hb => ⟨hb.1, Nat.lt_of_lt_of_le hb.2.1 r3, fun i y l h1 h2 h3 => hb.2.2.1 i y l (same i y l h1 h3).1 h2 (same i y l h1 h3).2, fun x hx => by
      rcases List.mem_cons.1 hx with rfl | hx
      · intro hb'
        rcases r5 b hb' with h | h
        · exact hb.2.2.2 o List.mem_cons_self h
        · have := hb.2.1; omega
      · exact hb.2.2.2 x (List.mem_cons_of_mem _ hx)⟩
    have kept : ∀ b, Good n0 ρ H w (o :: rest) b → b < w.heap.size → w6.heap[b]? = w.heap[b]? := fun b hb hb' => r4 b hb' (hb.2.2.2 o List.mem_cons_self)
    refine k ρ' w6 c' out' g1 g2 r2.one ⟨g3, g4.trans a.fn, a.keep, a.size, a.base.trans g1, fun q hq => g1 _ _ (a.named q hq), Nat.le_trans a.data.size r3, fun q hq => RdC.mono r3 kept good q.x (a.data.facts q hq), fun x hx => ?_, fun x hx b hb i y l h1 h2 h3 e => ?_, List.pairwise_cons.2 ⟨fun x hx b hb hb' => ?_, hap.2⟩⟩
    · rcases List.mem_cons.1 hx with rfl | hx
      · exact ⟨cells ++ c1.toList, by simpa using r2, Cells.snoc (hrow'.mono r3 kept good) (hc.mono r3 kept good)⟩
      · obtain ⟨cs2, p1, p2⟩ := a.data.grow x (List.mem_cons_of_mem _ hx)
        exact ⟨cs2, p1.keep r3 fun b hb => r4 b (p1.block hb).2 fun hb' => hap.1 x hx b hb' hb, p2.mono r3 kept good⟩
    · obtain ⟨s1, s2⟩ := same i y l h1 h3
      rcases List.mem_cons.1 hx with rfl | hx
      · rcases r5 b hb with h | h
        · exact hnot i y l s1 s2 (e ▸ h)
        · have := hlow i y l s1 s2; omega
      · exact a.data.own x (List.mem_cons_of_mem _ hx) b hb i y l s1 h2 s2 e
    · rcases r5 b hb with h | h
      · exact hap.1 x hx b h hb'
      · obtain ⟨cs2, p1, p2⟩ := a.data.grow x (List.mem_cons_of_mem _ hx)
        have := (p1.block hb').2
        omega
theorem Sit.close (a : Sit P tb f n0 V made (o :: rest) ρ H w fr c cs) {j : Nat} {t : TypeId} (hz : ρ j = some ⟨0, 0, o.v⟩) (he : tb.elem t = some o.E) (hm : (tb.flat o.E).length = o.m) (hm0 : 0 < o.m) : Sit P tb f n0 V (⟨j, o.v, .seq o.rows, t⟩ :: made) rest ρ H w fr c cs :=
  ⟨a.state, a.fn, a.keep, a.size, a.base, fun q hq => by
    rcases List.mem_cons.1 hq with rfl | hq
    · exact hz
    · exact a.named q hq, a.data.close he hm hm0⟩
theorem Sit.sub (a : Sit P tb f n0 V made outs ρ H w fr c cs) (h : ∀ q ∈ made', q ∈ made) : Sit P tb f n0 V made' outs ρ H w fr c cs :=
  ⟨a.state, a.fn, a.keep, a.size, a.base, fun q hq => a.named q (h q hq), a.data.sub h⟩
/-- The cells of a row: the source's where they hold no blocks, else what has been made. -/
theorem Sit.row (a : Sit P tb f n0 V made outs ρ H w fr c cs) {S' : Nat → Prop} {w' : World} : ∀ {b0 : Nat} {ts : List TypeId} {vs : List Value} {xs : List T} {new : List AV}, rowIs tb made b0 ts xs new → RdVals tb S' w' ts vs xs → (∀ (j : Nat) z, vs[j]? = some z → V[b0 + j]? = some z) →
    ∀ l, RelL ρ new l → RdVals tb (Good n0 ρ H w outs) w ts l xs
  | b0, [], vs, xs, new, h, hr, hV, l, hl => by
    simp only [rowIs] at h
    obtain ⟨rfl, rfl⟩ := h
    simp only [RelL] at hl
    simp only [RdVals]
    exact ⟨hl, trivial⟩
  | b0, t :: ts, vs, xs, new, h, hr, hV, l, hl => by
    simp only [rowIs] at h
    obtain ⟨x, xs', a1, as', rfl, rfl, h1, h2⟩ := h
    simp only [RdVals] at hr
    obtain ⟨v, vs', x2, xs2, rfl, e2, r1, r2⟩ := hr
    cases e2
    simp only [RelL] at hl
    obtain ⟨z, l', rfl, l1, l2⟩ := hl
    simp only [RdVals]
    refine ⟨z, l', x, xs', rfl, rfl, ?_, a.row h2 r2 (fun j z hj => by rw [show b0 + 1 + j = b0 + (j + 1) by omega]; exact hV (j + 1) z (by simpa using hj)) l' l2⟩
    rcases h1 with ⟨rfl, he⟩ | ⟨k, hk, rfl, rfl, rfl⟩
    · have := a.base _ _ (renOf_sym (hV 0 v rfl))
      rw [sym_is this l1]
      exact RdC.plain he r1
    · rw [sym_is (a.named k hk) l1]
      exact a.data.facts k hk
end
end Go.Am
set_option linter.unusedSectionVars false
namespace Go.Am

/-- A loop's head. -/
structure Head (P : Program) (W : World) (tb : Tab) (pre : List Value) (H : AHeap) (F : List (Nat × AV)) (made : List Fact) (rest : List Grow) (dO : Nat) (o : Grow) (d : Nat) (i : Int) (f n : Nat) (B : Code) (K : List AItem) (ρ : Ren) (w : World) (c : Frame) : Prop where
  loop : LoopH P W pre H F dO o.v d i f n B K ρ w c
  named : ∀ q ∈ made, ρ q.j = some ⟨0, 0, q.z⟩
  data : Data tb W.heap.size made (o :: rest) ρ H w
/-- What a head's frame and memory are: the kernel's word. -/
structure LoopFacts (p : Option (Func × AFrame × AHeap)) (lo d dO k : Nat) (F : List (Nat × AV)) : Prop where
  head : chkHead p d 0 ((dO, .nilslice) :: F) = true
  ok : headOk lo p F = true
  next : (heapOf p).next = 2000 + k
def getsOf (p : Option (Func × AFrame × AHeap)) (k : Nat) : List (Option AObj) := (List.range' 2000 k).map (heapOf p).get
/-- What a round's end is. -/
structure RoundFacts (p r : Option (Func × AFrame × AHeap)) (d dO k j1 j2 : Nat) (F : List (Nat × AV)) : Prop where
  todo : todoOf r = wantTodo p
  slots : slotsOf r ((d, .sym j1) :: (dO, .sym j2) :: F) = true
  keep : getsOf r k = getsOf p k
theorem round_some {P : Program} {p r : Option (Func × AFrame × AHeap)} {f n : Nat} {g : Func} {B : Code} {K : List AItem} (hl : Looping P p f n g B K) (ht : todoOf r = wantTodo p) : ∃ x, r = some x ∧ x.2.1.todo = .inLoop B :: K := by
  obtain ⟨fr, h1, _⟩ := hl.at'
  unfold wantTodo at ht
  rw [h1] at ht
  cases hq : r with
  | none => rw [hq] at ht; cases ht
  | some x =>
    rw [hq] at ht
    exact ⟨x, rfl, Option.some.inj ht⟩
theorem Looping.cutsH {P : Program} {p : Option (Func × AFrame × AHeap)} {f n : Nat} {g : Func} {B : Code} {K : List AItem} (hl : Looping P p f n g B K) (oc : Orc P) {F : List (Nat × AV)} {d q : Nat} {cuts : List Cut} {x : Func × AFrame × AHeap} (h : @roundCutsH P oc p F d q cuts = some x) : @runCuts P oc cuts (headFr f n B K F d q, heapOf p) = some x.2 ∧ x.1 = g := by
  obtain ⟨fr, h1, h2, h3⟩ := hl.at'
  unfold roundCutsH at h
  rw [h1] at h
  simp only [h2, h3] at h
  split at h
  · rename_i r hr
    cases h
    exact ⟨hr, rfl⟩
  · cases h
theorem cells_of_free {lo : Nat} : ∀ {t : Tree AObj}, t.all (cellsFree lo) = true → t.all isCells = true
  | .leaf, _ => rfl
  | .node v l r, h => by
    simp only [Tree.all, Bool.and_eq_true] at *
    refine ⟨?_, cells_of_free h.2.1, cells_of_free h.2.2⟩
    cases v with
    | none => rfl
    | some a => cases a <;> first | rfl | exact h.1
section
variable {P : Program} {tb : Tab} {W w : World} {V pre more : List Value} {H : AHeap} {F : List (Nat × AV)} {made made' : List Fact} {rest : List Grow} {dO d : Nat} {o o' : Grow} {i : Int} {f n : Nat} {B : Code} {K : List AItem} {ρ : Ren} {c : Frame} {ks : List Frame} {es : List Ent} {cs : List CEnt} {fr : AFrame} {R : Ending → World → Prop} {p r : Option (Func × AFrame × AHeap)} {g : Func}
theorem only_high {ρ : Ren} {V : List Value} {i : Nat} (h : 2000 ≤ i) : ρ.only V i = ρ i := by unfold Ren.only; rw [if_neg (by omega)]
theorem syms_high {ρ : Ren} {V : List Value} {i : Nat} (h : 2000 ≤ i) : ρ.syms V i = ρ i := by unfold Ren.syms; rw [if_neg (by omega)]
/-- A call's start. -/
theorem Calls.sit (hes : ∀ e ∈ es, EntOk P V w e) (hcs : ∀ e ∈ cs, CallOk P V w e) (hl : V.length ≤ 1000) {args : List AV} {args' : Array Value} {cuts : List Cut} {x : Func × AFrame × AHeap} (hx : @enterCuts P (orcOf P es cs) f args cuts = some x) (ra : RelL (renOf V) args args'.toList)
    (k : ∀ ks c b, @runCuts P (orcOf P es cs) cuts (entered f x.1.ntmps args b, H0) = some x.2 → P.funcs[f]? = some x.1 → @Sit P (orcOf P es cs) (okOf P es cs V w hes hcs) tb f w.heap.size V [] [] (renOf V) H0 w (entered f x.1.ntmps args b) c ks → Ends P c ks w R) : Calls P f args' w R := by
  obtain ⟨b, h1, h2, h3, h4⟩ := @enterCuts_is P (orcOf P es cs) f args cuts x hx
  refine Calls.mix (tb := tb) hes hcs hl h1 h2 h3 ra fun ks c M => ?_
  letI : Orc P := orcOf P es cs
  letI : OrcOk P := okOf P es cs V w hes hcs
  exact k ks c b h4 (funcs_eq h1) ⟨M.state, M.fn, fun b hb => hb, rfl, Ren.le.refl _, (fun q hq => absurd hq (List.not_mem_nil)), Nat.le_refl _, (fun q hq => absurd hq (List.not_mem_nil)), (fun q hq => absurd hq (List.not_mem_nil)), (fun q hq => absurd hq (List.not_mem_nil)), List.Pairwise.nil⟩
variable {hes : ∀ e ∈ es, EntOk P V W e} {hcs : ∀ e ∈ cs, CallOk P V W e}
/-- From a run to a loop's head. -/
theorem Sit.loop {lo kk : Nat} {x : Func × AFrame × AHeap} (a : @Sit P (orcOf P es cs) (okOf P es cs V W hes hcs) tb f W.heap.size V made rest ρ x.2.2 w x.2.1 c ks) (hp : p = some x) (hg : P.funcs[f]? = some x.1) (lf : LoopFacts p lo d dO kk F) (hlo : lo = 1000 + V.length) (hl : V.length ≤ 1000) (hj : ∀ q ∈ made, numOk lo q.j = true) (E m : Nat)
    (k : ∀ B K, Looping P p f x.2.1.n x.1 B K → ρ.le ρ → ∀ c2, Head P W tb V (heapOf p) F made rest dO ⟨.slice none 0 0, E, m, []⟩ d 0 f x.2.1.n B K (ρ.only V) w c2 → Ends P c2 ks w R) : Ends P c ks w R := by
  letI : Orc P := orcOf P es cs
  letI : OrcOk P := okOf P es cs V W hes hcs
  subst hlo
  obtain ⟨gg, fr, H⟩ := x
  simp only at a hg k
  have he := lf.head
  unfold chkHead at he
  split at he
  case h_2 => cases he
  rename_i g2 fr2 B K hlo
  rw [Bool.and_eq_true] at he
  obtain ⟨H2, hp2, ht⟩ := loopOf_spec hlo
  rw [hp] at hp2
  cases hp2
  have hk := lf.ok
  have hH : heapOf p = H := by rw [hp]; rfl
  unfold headOk at hk
  rw [hH] at hk
  simp only [Bool.and_eq_true] at hk
  obtain ⟨⟨hk1, hk2⟩, hk3⟩ := hk
  have hfn : fr.fn = f := by
    have := a.state.here.fn
    rw [← this]; exact a.fn
  refine At0.head a.state a.fn he.1 ht he.2 hl a.base hk1 hk2 hk3 fun c2 lh => ?_
  have lk := k B K ⟨⟨fr, hlo, hfn, rfl⟩, he.1, hg⟩ (Ren.le.refl _) c2
  rw [hH] at lk
  refine lk ⟨lh, fun q hq => ?_, (a.data.open E m).less fun i y l h1 h2 h3 => ⟨i, y, l, h1, h2, ?_, rfl⟩⟩
  · rw [only_eq hl a.base q.j (hj q hq)]
    exact a.named q hq
  · rw [← only_high (ρ := ρ) (V := V) ((noLow_spec hk1).2 i y h1)]
    exact h3
/-- From a head to a round. -/
theorem Head.sit (hp : plainI K = true) (l : Head P W tb pre H F made rest dO o d i f n B K ρ w c) (hes : ∀ e ∈ es, EntOk P (pre ++ (o.v :: .int .i64 i :: more)) W e) (hcs : ∀ e ∈ cs, CallOk P (pre ++ (o.v :: .int .i64 i :: more)) W e) (hv : (pre ++ (o.v :: .int .i64 i :: more)).length ≤ 1000) :
    ρ.le (ρ.syms (pre ++ (o.v :: .int .i64 i :: more))) ∧ @Sit P (orcOf P es cs) (okOf P es cs (pre ++ (o.v :: .int .i64 i :: more)) W hes hcs) tb f W.heap.size (pre ++ (o.v :: .int .i64 i :: more)) made (o :: rest) (ρ.syms (pre ++ (o.v :: .int .i64 i :: more))) H w (headFr f n B K ((dO, .sym (1000 + pre.length)) :: F) d (pre.length + 1)) c ks := by
  have hle : ρ.le (ρ.syms (pre ++ (o.v :: .int .i64 i :: more))) := Ren.le_syms fun j _ h => l.loop.syms j h
  have M := l.loop.mix (tb := tb) (ks := ks) hp hes hcs hv
  refine ⟨hle, ?_⟩
  letI : Orc P := orcOf P es cs
  letI : OrcOk P := okOf P es cs (pre ++ (o.v :: .int .i64 i :: more)) W hes hcs
  refine ⟨M.state, M.fn, fun b hb => hb, rfl, M.le, fun q hq => hle _ _ (l.named q hq), l.data.less fun a y l2 h1 h2 h3 => ⟨a, y, l2, h1, h2, ?_, rfl⟩⟩
  have h4 := syms_high (ρ := ρ) (V := pre ++ (o.v :: .int .i64 i :: more)) ((noLow_spec l.loop.low).2 a y h1)
  rw [← h4]
  exact h3
/-- From a round's end to the head. -/
theorem Sit.round {ρ' : Ren} {w' : World} {c' : Frame} {x : Func × AFrame × AHeap} {kk j1 j2 : Nat} {i' : Int} (l : Head P W tb pre (heapOf p) F made rest dO o d i f n B K ρ w c) (hl : Looping P p f n g B K) (a : @Sit P (orcOf P es cs) (okOf P es cs V W hes hcs) tb f W.heap.size V made' (o' :: rest) ρ' x.2.2 w' x.2.1 c' ks)
    (hr : r = some x) (rf : RoundFacts p r d dO kk j1 j2 F) {lo : Nat} (lf : LoopFacts p lo d dO kk F) (hle : ρ.le ρ') (hn : x.2.1.n = n) (h1 : ρ' j1 = some ⟨0, 0, .int .i64 i'⟩) (h2 : ρ' j2 = some ⟨0, 0, o'.v⟩) (ho : o'.v.oneCell' = true) (hm : ∀ q ∈ made, q ∈ made')
    (k : ∀ c2, Head P W tb pre (heapOf p) F made rest dO o' d i' f n B K ρ w' c2 → Ends P c2 ks w' R) : Ends P c' ks w' R := by
  letI : Orc P := orcOf P es cs
  letI : OrcOk P := okOf P es cs V W hes hcs
  have hH : heapOf r = x.2.2 := by rw [hr]; rfl
  have hk := lf.ok
  unfold headOk at hk
  simp only [Bool.and_eq_true] at hk
  obtain ⟨⟨hk1, hk2⟩, hk3⟩ := hk
  have hget : ∀ i o, (heapOf p).get i = some o → x.2.2.get i = some o := fun i o h => by
    have h3 := (noLow_spec hk1).2 i o h
    have h4 : i < 2000 + kk := by
      obtain ⟨loc, q1, _⟩ := l.loop.heap.obj i o h
      rcases Nat.lt_or_ge i (2000 + kk) with h5 | h5
      · exact h5
      · have := l.loop.heap.fresh i (by rw [lf.next]; exact h5)
        rw [this] at q1
        cases q1
    have h5 := rf.keep
    unfold getsOf at h5
    rw [hH] at h5
    have h6 := List.map_inj_left.1 h5 i (by rw [List.mem_range'_1]; omega)
    rw [h6]; exact h
  obtain ⟨y, e1, e2⟩ := round_some hl rf.todo
  rw [hr] at e1
  cases e1
  have hs := rf.slots
  rw [hr] at hs
  refine l.loop.again hl a.state hle (cells_of_free hk2) hget hn a.fn e2 hs h1 h2 ho fun c2 lh => k c2 ⟨lh, l.named, (a.data.sub hm).less fun i y l2 q1 q2 q3 => ⟨i, y, l2, hget i y q1, q2, hle _ _ q3, rfl⟩⟩
/-- A call's end. -/
theorem Sit.ret {x : Func × AFrame × AHeap} {v : AV} (a : @Sit P (orcOf P es cs) (okOf P es cs V W hes hcs) tb f W.heap.size V made rest ρ x.2.2 w x.2.1 c ks) (hg : P.funcs[f]? = some x.1) (hr : r = some x) (hv : @retOf? P (orcOf P es cs) r = some v) (k : ∀ u, RelV ρ v u → Grows W w → R (.returned u) w) : Ends P c ks w R := by
  letI : Orc P := orcOf P es cs
  letI : OrcOk P := okOf P es cs V W hes hcs
  rw [hr] at hv
  exact At0.ret a.state (by rw [a.fn]; exact hg) hv fun u hu => k u hu a.grows
/-- Rounds, one after the other. -/
theorem Ends.each {A : Nat → World → Frame → Prop} {N : Nat} (round : ∀ i w c, i < N → A i w c → (∀ w' c', A (i + 1) w' c' → Ends P c' ks w' R) → Ends P c ks w R) (stop : ∀ w c, A N w c → Ends P c ks w R) {w : World} {c : Frame} (h : A 0 w c) : Ends P c ks w R := by
  have key : ∀ (j i : Nat) (w : World) (c : Frame), N - i = j → i ≤ N → A i w c → Ends P c ks w R := by
    intro j
    induction j with
    | zero =>
      intro i w c hj hi h
      have : i = N := by omega
      subst this
      exact stop w c h
    | succ j ih => exact fun i w c hj hi h => round i w c (by omega) h fun w' c' h' => ih (i + 1) w' c' (by omega) (by omega) h'
  exact key N 0 w c (by omega) (Nat.zero_le _) h
end
end Go.Am
set_option linter.unusedSectionVars false
namespace Go.Am

/-- What a round asks: the length, whether there is one more, its place, its cells, the next number. -/
def ent5 (tS E : TypeId) (m ps pi pl pp pn pc : Nat) : List Ent := [(.len tS, [.sym (1000 + ps)], .sym (1000 + pl)), (.lss 3, [.sym (1000 + pi), .sym (1000 + pl)], .bool true), (.idx tS, [.sym (1000 + ps), .sym (1000 + pi)], .sym (1000 + pp)), (.load E, [.sym (1000 + pp)], .agg (symL pc m)), (.add 3, [.sym (1000 + pi), .int .i64 1], .sym (1000 + pn))]
/-- What is asked when there is none more. -/
def ent2 (tS : TypeId) (ps pi pl : Nat) : List Ent := [(.len tS, [.sym (1000 + ps)], .sym (1000 + pl)), (.lss 3, [.sym (1000 + pi), .sym (1000 + pl)], .bool false)]
/-- And the next number of an outer loop. -/
def ent3 (tS : TypeId) (ps pi pl qi qn : Nat) : List Ent := ent2 tS ps pi pl ++ [(.add 3, [.sym (1000 + qi), .int .i64 1], .sym (1000 + qn))]
section
variable {P : Program} {W : World} {V : List Value}
theorem ent5Ok {tS E m : Nat} (hu : und P tS = some (.slice E)) (ha : aggP P E = some true) (hz : sizeP P E = some m) (hm0 : 0 < m) {v : Value} {N i : Nat} (sx : sliceIs v N) (hlt : i < N) (hN : N < big) {b off cap : Nat} (e1 : v = .slice (some ⟨b, off, none⟩) N cap) (e2 : N ≤ cap) (e3 : b < W.heap.size)
    {zs : List Value} (lv : zs.length = m) (ho : ∀ (j : Nat) z, zs[j]? = some z → z.oneCell' = true) (e6 : ∀ (j : Nat) z, zs[j]? = some z → W.cell? ⟨b, off + i * m + j, none⟩ = some z) (ps pi pl pp pn pc : Nat)
    (hps : V[ps]? = some v) (hpi : V[pi]? = some (.int .i64 i)) (hpl : V[pl]? = some (.int .i64 N)) (hpp : V[pp]? = some (.pointer (some ⟨b, off + i * m, none⟩))) (hpn : V[pn]? = some (.int .i64 ((i + 1 : Nat) : Int))) (hpc : ∀ (j : Nat) z, zs[j]? = some z → V[pc + j]? = some z) :
    ∀ e ∈ ent5 tS E m ps pi pl pp pn pc, EntOk P V W e := by
  intro e he
  simp only [ent5, List.mem_cons, List.not_mem_nil, or_false] at he
  rcases he with rfl | rfl | rfl | rfl | rfl
  · exact ent_len hu hps hpl sx
  · exact ent_lss hpi hpl (by simp; omega)
  · exact ent_idx hu hz hm0 (by rw [hps, e1]) e2 hpi hlt hpp
  · exact ld_ok (ag := true) (zs := zs) ha (fun h => by cases h) hz lv ho e3 e6 hpp hpc
  · exact ent_succ hpi hpn (by have := lift hN; omega)
theorem ent2Ok {tS E : Nat} (hu : und P tS = some (.slice E)) {v : Value} {N : Nat} (sx : sliceIs v N) (ps pi pl : Nat) (hps : V[ps]? = some v) (hpi : V[pi]? = some (.int .i64 N)) (hpl : V[pl]? = some (.int .i64 N)) :
    ∀ e ∈ ent2 tS ps pi pl, EntOk P V W e := by
  intro e he
  simp only [ent2, List.mem_cons, List.not_mem_nil, or_false] at he
  rcases he with rfl | rfl
  · exact ent_len hu hps hpl sx
  · exact ent_lss hpi hpl (by simp)
theorem ent3Ok {tS E : Nat} (hu : und P tS = some (.slice E)) {v : Value} {N : Nat} (sx : sliceIs v N) (ps pi pl qi qn : Nat) (hps : V[ps]? = some v) (hpi : V[pi]? = some (.int .i64 N)) (hpl : V[pl]? = some (.int .i64 N)) {k : Nat} (hk : k < 9223372036854775807) (hqi : V[qi]? = some (.int .i64 k)) (hqn : V[qn]? = some (.int .i64 ((k + 1 : Nat) : Int))) :
    ∀ e ∈ ent3 tS ps pi pl qi qn, EntOk P V W e := by
  intro e he
  rcases List.mem_append.1 he with he | he
  · exact ent2Ok hu sx ps pi pl hps hpi hpl e he
  · rw [List.mem_singleton] at he
    subst he
    exact ent_succ hqi hqn hk
theorem take_small {x : List T} {n : Nat} (h : x.length < n) (i : Nat) : (x.take i).length < n := Nat.lt_of_le_of_lt (by rw [List.length_take]; exact Nat.min_le_right _ _) h
theorem small_most {x : List T} (h : x.length < big) : x.length ≤ most := Nat.le_of_lt h
theorem take_next {l : List T} {i : Nat} {x : T} (h : l[i]? = some x) : l.take (i + 1) = l.take i ++ [x] := by rw [List.take_add_one, h]; rfl
theorem head_some {p : Option (Func × AFrame × AHeap)} {d : Nat} {i : Int} {F : List (Nat × AV)} (h : chkHead p d i F = true) : ∃ x, p = some x := by
  cases p with
  | some x => exact ⟨x, rfl⟩
  | none => cases h
theorem ret_some {P : Program} [Orc P] {p : Option (Func × AFrame × AHeap)} {v : AV} (h : retOf? P p = some v) : ∃ x, p = some x := by
  cases p with
  | some x => exact ⟨x, rfl⟩
  | none => cases h
/-- Symbols side by side tell the values side by side. -/
theorem syms_are {ρ : Ren} (hb : (renOf V).le ρ) {us : List Value} (ho : ∀ (j : Nat) z, us[j]? = some z → z.oneCell' = true) {k m : Nat} (hm : us.length = m) (h : ∀ (j : Nat) z, us[j]? = some z → V[k + j]? = some z) : ∀ l, RelL ρ (symL k m) l → l = us := fun l hl => by
  subst hm
  exact RelL.det _ hl (RelL.mono hb _ _ (symL_rel fun j z hz => ⟨h j z hz, ho j z hz⟩))
theorem symL_vals {us : List Value} (ho : ∀ (j : Nat) z, us[j]? = some z → z.oneCell' = true) {k m : Nat} (hm : us.length = m) (h : ∀ (j : Nat) z, us[j]? = some z → V[k + j]? = some z) : RelL (renOf V) (symL k m) us := by
  subst hm
  exact symL_rel fun j z hz => ⟨h j z hz, ho j z hz⟩
end
section
variable {P : Program} {tb : Tab} {W w : World} {V pre more : List Value} {H : AHeap} {made : List Fact} {outs : List Grow} {f : FuncId} {ρ : Ren} {c : Frame} {ks : List Frame} {es : List Ent} {cs : List CEnt} {fr : AFrame} {hes : ∀ e ∈ es, EntOk P V W e} {hcs : ∀ e ∈ cs, CallOk P V W e} {n0 : Nat}
theorem Sit.since (a : @Sit P (orcOf P es cs) (okOf P es cs V W hes hcs) tb f n0 V made outs ρ H w fr c ks) : Grows W w := by
  letI : Orc P := orcOf P es cs
  letI : OrcOk P := okOf P es cs V W hes hcs
  exact a.grows
/-- All that a function has made is new. -/
theorem Sit.fresh {ts : List TypeId} {vs : List Value} {xs : List T} (h : RdVals tb (Good n0 ρ H w outs) w ts vs xs) : RdVals tb (fun b => n0 ≤ b ∧ b < w.heap.size) w ts vs xs :=
  h.mono (Nat.le_refl _) (fun _ _ _ => rfl) fun b hb => ⟨hb.1, hb.2.1⟩
end
/-- New rows that a call has made, cell by cell. -/
theorem Sit.newRow {P : Program} [Orc P] [OrcOk P] {tb : Tab} {f : FuncId} {n0 : Nat} {V : List Value} {made : List Fact} {outs : List Grow} {ρ : Ren} {H : AHeap} {w : World} {fr : AFrame} {c : Frame} {cs : List Frame} (a : Sit P tb f n0 V made outs ρ H w fr c cs) : ∀ {j : Nat} {us : List Value} {xs : List T} {ts : List TypeId}, us.length = ts.length → xs.length = ts.length → (∀ q ∈ newFacts j us xs ts, q ∈ made) →
    ∀ l, RelL ρ (symR j ts.length) l → RdVals tb (Good n0 ρ H w outs) w ts l xs
  | j, [], [], [], _, _, _, l, hl => by
    simp only [List.length_nil, symR, RelL] at hl
    simp only [RdVals]
    exact ⟨hl, trivial⟩
  | j, [], _ :: _, ts, h1, h2, _, l, hl => by rw [← h1] at h2; simp at h2
  | j, _ :: _, [], ts, h1, h2, _, l, hl => by rw [← h1] at h2; simp at h2
  | j, u :: us, x :: xs, t :: ts, h1, h2, hm, l, hl => by
    simp only [List.length_cons, symR, RelL] at hl
    obtain ⟨z, l', rfl, l1, l2⟩ := hl
    simp only [RdVals]
    have h0 := hm ⟨j, u, x, t⟩ (by simp [newFacts])
    refine ⟨z, l', x, xs, rfl, rfl, ?_, a.newRow (by simpa using h1) (by simpa using h2) (fun q hq => hm q (by simp only [newFacts]; exact List.mem_cons_of_mem _ hq)) l' l2⟩
    rw [sym_is (a.named _ h0) l1]
    exact a.data.facts _ h0
end Go.Am
