/-
  Part 6 of the proof that winch/winchlaw25.ChangeBodies returns true for every two bodies of small bulk: lemmas.
  Conditions: none beyond each theorem's own premises.
  What lies here:
  The small evaluator's append against the machine's.
  The small evaluator's operations against the machine's, all of them: what an operation gives there it gives here.
  The small evaluator's operations against the machine's: one operation, whichever it is.
-/
import Derived.Test.YtclhjedldbkgpaaGreatDoorBodies5
set_option linter.unusedVariables false
set_option linter.unusedSimpArgs false
set_option linter.unusedSectionVars false
namespace Go.Am
variable {P : Program} [Orc P] [OrcOk P] {ρ : Ren} {H : AHeap} {w : World}

theorem zeroP_all {t : TypeId} {a : AV} (h : zeroP P t = some a) (ρ : Ren) : ∃ v, (zeroValue t).run P = (fun w => .ok v w) ∧ RelV ρ a v := by
  unfold zeroP at h
  cases hi : info P t with
  | none => simp [hi] at h
  | some i =>
    simp only [hi] at h
    cases hz : i.zero with
    | none => simp [hz] at h
    | some v =>
      simp only [hz] at h
      exact ⟨v, by funext w; unfold zeroValue; simp [run_info hi, hz], ofConst_rel h⟩

theorem pushCells_rel (h : RelH P ρ H w) {t : Tree AV} {size : Nat} (elem : TypeId) {c : Array Value} (e : TypeId) (hle : size ≤ c.size)
    (hc : ∀ j, j < size → ∃ a v, t.get j = some a ∧ c[j]? = some v ∧ RelV ρ a v ∧ a.one = true) {w' : World} (hw : w'.heap = w.heap.push (.cells c e)) (hst : Still w w') :
    RelH P (ρ.add H.next ⟨w.heap.size, c.size, Go.undef⟩) (H.push (.cells t size elem false false)) w' ∧ Ext ρ H w (ρ.add H.next ⟨w.heap.size, c.size, Go.undef⟩) (H.push (.cells t size elem false false)) w' := by
  refine h.push c.size hw hst ?_
  simp only [RelO]
  refine ⟨c, e, (0, 0), rfl, rfl, hle, ?_, fun j hj => ?_, fun _ j _ => by simp⟩
  · intro hh; cases hh
  · obtain ⟨a, v, h1, h2, h3, h4⟩ := hc j hj
    exact ⟨a, v, h1, h2, RelV.mono (Ren.le_add (h.fresh _ (Nat.le_refl _))) _ _ h3, h4⟩

/-- A list's cells as a row's. -/
theorem listCells {l : List AV} {c : Array Value} (hl : RelL ρ l c.toList) (ho : noAggs l = true) (extra : Array Value) :
    ∀ j, j < l.length → ∃ a v, (Tree.putList .leaf 0 l).get j = some a ∧ (c ++ extra)[j]? = some v ∧ RelV ρ a v ∧ a.one = true := fun j hj => by
  obtain ⟨v, hv, hr⟩ := hl.get (List.getElem?_eq_getElem hj)
  have hlen := hl.length
  simp only [Array.length_toList] at hlen
  refine ⟨l[j], v, by rw [Tree.get_putList]; simp [hj], ?_, hr, noAggs_one ho _ (List.getElem_mem hj)⟩
  rw [Array.getElem?_append, if_pos (by omega)]
  simpa using hv

theorem noAggs_append : ∀ {a b : List AV}, (∀ x ∈ a, x.one = true) → noAggs b = true → noAggs (a ++ b) = true
  | [], b, _, h => h
  | x :: a, b, ha, h => by
    have hx := ha x (by simp)
    have ih : noAggs (a ++ b) = true := noAggs_append (fun y hy => ha y (List.mem_cons_of_mem _ hy)) h
    cases x <;> first | (simp [AV.one] at hx; done) | (simp only [List.cons_append, noAggs]; exact ih)

theorem slice_cap {n off es k : Nat} (hes : 0 < es) (hk : 0 < k) : k ≤ (n - off) / es ↔ off + k * es ≤ n := by
  rw [Nat.le_div_iff_mul_le hes]
  have : 0 < k * es := Nat.mul_pos hk hes
  omega

theorem appendA_rel (h : RelH P ρ H w) {sT xT : TypeId} {s x : AV} {s' x' : Value} {out : AOut} (hA : appendA P H sT xT s x = some out) (rs : RelV ρ s s') (rx : RelV ρ x x') (ty : TypeId) :
    ∃ a H', out = .value a H' ∧ ∃ ρ' v w', (Builtin.append_ #[sT, xT] ty #[s', x']).run P w = .ok v w' ∧ RelV ρ' a v ∧ RelH P ρ' H' w' ∧ Ext ρ H w ρ' H' w' := by
  unfold appendA at hA
  split at hA
  case h_2 => cases hA
  rename_i elem dx hu hx
  split at hA
  case h_2 => cases hA
  rename_i ie z hi hz
  cases ha : appended H ie.size x with
  | none => simp [ha] at hA
  | some p =>
    obtain ⟨n, new⟩ := p
    simp only [ha] at hA
    cases hb : (!isIntD dx && Nat.ble ie.bytes 4096 && Nat.blt 0 ie.bytes && Nat.blt 0 ie.size && Nat.beq z.cells.length ie.size && noAggs new && noAggs z.cells) with
    | false => rw [hb] at hA; cases hA
    | true =>
      rw [hb, cond_true] at hA
      simp only [Bool.and_eq_true, Bool.not_eq_true'] at hb
      obtain ⟨⟨⟨⟨⟨⟨hd, hb1⟩, hb2⟩, hb3⟩, hb4⟩, hno⟩, hnoz⟩ := hb
      have hby : ie.bytes ≤ 4096 := Nat.le_of_ble_eq_true hb1
      have hby0 : 0 < ie.bytes := Nat.lt_of_succ_le (Nat.le_of_ble_eq_true hb2)
      have hes : 0 < ie.size := Nat.lt_of_succ_le (Nat.le_of_ble_eq_true hb3)
      have hzl : z.cells.length = ie.size := Nat.eq_of_beq_eq_true hb4
      obtain ⟨zv, hzv, rz⟩ := zeroP_all hz ρ
      have hzs := rz.cells.length
      simp only [Array.length_toList] at hzs
      obtain ⟨hlen, c, hfirst', hrel, hnl⟩ := appended_rel h rx ha
      have hfirst := hfirst' w rfl
      have hcl := hrel.length
      simp only [Array.length_toList] at hcl
      split at hA
      · -- nil
        simp only [RelV] at rs; subst rs
        cases hn : Nat.beq n 0 with
        | true =>
          rw [hn, cond_true] at hA; cases hA
          obtain rfl := Nat.eq_of_beq_eq_true hn
          have := append_head (w := w) (sLen := 0) (sCap := 0) (base := none) hu hx hd hi hlen ty c hfirst (by omega)
          exact ⟨_, _, rfl, ρ, .slice none 0 0, w, this, by simp only [RelV], h, Ext.refl _ _ _⟩
        | false =>
          rw [hn, cond_false] at hA
          have hnpos : 0 < n := Nat.pos_of_ne_zero (Nat.ne_of_beq_eq_false hn)
          cases hm : Nat.ble n most with
          | false => rw [hm] at hA; cases hA
          | true =>
            rw [hm, cond_true] at hA; cases hA
            have hmost := Nat.le_of_ble_eq_true hm
            obtain ⟨w', cap, hcap, ⟨hheap, hstl⟩, hrun⟩ := append_more (w := w) (sLen := 0) (sCap := 0) (base := none) hu hx hd hi hzv hlen ty c #[] (by omega) hby0 hby (by omega) hfirst' (fun _ _ => rfl)
            have hp := pushCells_rel h elem (size := new.length) (t := Tree.putList .leaf 0 new) (c := #[] ++ c ++ Builtin.zeroCells zv.cells (cap - (0 + n))) elem (by simp; omega)
              (by simpa using listCells hrel hno (Builtin.zeroCells zv.cells (cap - (0 + n)))) hheap hstl
            refine ⟨_, _, rfl, _, _, w', hrun, ?_, hp.1, hp.2⟩
            have hsz : (#[] ++ c ++ Builtin.zeroCells zv.cells (cap - (0 + n))).size = cap * ie.size := by
              simp only [Array.size_append, zeroCells_size, Array.size_empty, hcl, hnl, hzs, hzl, Nat.zero_add]
              exact mul_split _ (by omega)
            simp only [RelV]
            refine ⟨_, Ren.add_same _ _ _, hes, ?_, ?_⟩
            · simp only [hsz]
              have : n * ie.size ≤ cap * ie.size := Nat.mul_le_mul_right _ (by omega)
              omega
            · simp only [hsz, Nat.sub_zero, Nat.mul_div_cancel _ hes]
              rw [Nat.zero_add]
      · rename_i i off len es
        cases he : Nat.beq es ie.size with
        | false => rw [he] at hA; cases hA
        | true =>
          rw [he, cond_true] at hA
          obtain rfl := Nat.eq_of_beq_eq_true he
          have rs0 := rs
          simp only [RelV] at rs
          obtain ⟨l, hl, _, hfitl, rfl⟩ := rs
          have hcapl : len ≤ (l.n - off) / ie.size := by
            rw [Nat.le_div_iff_mul_le hes]; omega
          cases hn : Nat.beq n 0 with
          | true =>
            rw [hn, cond_true] at hA; cases hA
            obtain rfl := Nat.eq_of_beq_eq_true hn
            have hc0 : c.toList = [] := by
              have : c.size = 0 := by rw [hcl, hnl]; simp
              exact List.length_eq_zero_iff.1 (by simpa using this)
            have := append_head (w := w) (sLen := len) (sCap := (l.n - off) / ie.size) (base := some ⟨l.b, off, none⟩) hu hx hd hi hlen ty c hfirst (by omega)
            rw [hc0] at this
            exact ⟨_, _, rfl, ρ, _, w, by simpa [storeCells] using this, rs0, h, Ext.refl _ _ _⟩
          | false =>
            rw [hn, cond_false] at hA
            have hnpos : 0 < n := Nat.pos_of_ne_zero (Nat.ne_of_beq_eq_false hn)
            split at hA
            case h_2 => cases hA
            rename_i t size e tight ho
            obtain ⟨l', h1, h2, h3⟩ := h.obj i _ ho
            rw [hl] at h1; cases h1
            have h3' := h3
            simp only [RelO] at h3
            obtain ⟨cb, e', fz, k1, k2, k3, k4, k5, k6⟩ := h3
            cases hf : Nat.ble (off + (len + n) * ie.size) size with
            | true =>
              rw [hf, cond_true] at hA
              have hfit : len + n ≤ (l.n - off) / ie.size := (slice_cap hes (by omega)).2 (by have := Nat.le_of_ble_eq_true hf; omega)
              cases hw : writeCells H i (off + len * ie.size) new with
              | none => rw [hw] at hA; cases hA
              | some H' =>
                rw [hw] at hA; cases hA
                obtain ⟨loc, w', g1, g2, g3, g4⟩ := writeCells_rel h hw hrel
                rw [hl] at g1; cases g1
                have := append_head (w := w) (sLen := len) (sCap := (l.n - off) / ie.size) (base := some ⟨l.b, off, none⟩) hu hx hd hi hlen ty c hfirst hfit
                simp only [addr_add, g2, Result.andThen_ok] at this
                refine ⟨_, _, rfl, ρ, _, w', this, ?_, g3, g4⟩
                simp only [RelV]
                exact ⟨l, hl, hes, by have := Nat.le_of_ble_eq_true hf; omega, rfl⟩
            | false =>
              rw [hf, cond_false] at hA
              cases hm : (Nat.beq (off + len * ie.size) size && Nat.ble (len + n) most) with
              | false => rw [hm] at hA; cases hA
              | true =>
                rw [hm, cond_true] at hA
                rw [Bool.and_eq_true] at hm
                have hsz : off + len * ie.size = size := Nat.eq_of_beq_eq_true hm.1
                have hmost := Nat.le_of_ble_eq_true hm.2
                cases tight with
                | true =>
                  simp only at hA
                  cases hg : t.getList off (len * ie.size) with
                  | none => rw [hg] at hA; cases hA
                  | some old =>
                    rw [hg] at hA; cases hA
                    have hsn := k4 rfl
                    have hrc : readCells H i off (len * ie.size) = some old := by
                      unfold readCells
                      rw [ho]
                      simp only
                      rw [Nat.ble_eq_true_of_le (by omega), cond_true, hg]
                    obtain ⟨loc, vs, g1, g2, g3, _, g5, g6⟩ := readCells_rel h hrc
                    rw [hl] at g1; cases g1
                    have hnofit : (l.n - off) / ie.size < len + n := by
                      apply Nat.lt_of_not_le
                      intro hle
                      have := (slice_cap hes (by omega)).1 hle
                      rw [Nat.add_mul] at this
                      have := Nat.mul_pos hnpos hes
                      omega
                    obtain ⟨w', cap, hcap, ⟨hheap, hstl⟩, hrun⟩ := append_more (w := w) (sLen := len) (sCap := (l.n - off) / ie.size) (base := some ⟨l.b, off, none⟩) hu hx hd hi hzv hlen ty c vs.toArray hnofit hby0 hby hmost hfirst' (fun w' hw' => by
                      have hr := run_loadCells_list (P := P) w' ⟨l.b, off, none⟩ vs (fun j v hv => by rw [cell_same hw']; exact g5 j v hv)
                      rw [g3] at hr
                      simpa [Builtin.firstCells] using hr)
                    have hrl : RelL ρ (old ++ new) (vs.toArray ++ c).toList := by
                      rw [Array.toList_append]
                      exact RelL.append g2 hrel
                    have hold := g2.length
                    have hp := pushCells_rel h e (size := (old ++ new).length) (t := Tree.putList .leaf 0 (old ++ new)) (c := vs.toArray ++ c ++ Builtin.zeroCells zv.cells (cap - (len + n))) elem (by
                        simp only [Array.size_append, List.length_append, List.size_toArray]; omega)
                      (listCells hrl (noAggs_append g6 hno) _) hheap hstl
                    have hsize : (vs.toArray ++ c ++ Builtin.zeroCells zv.cells (cap - (len + n))).size = cap * ie.size := by
                      simp only [Array.size_append, zeroCells_size, List.size_toArray, g3, hcl, hnl, hzs, hzl]
                      rw [← Nat.add_mul]
                      exact mul_split _ (by omega)
                    refine ⟨_, _, rfl, _, _, w', hrun, ?_, hp.1, hp.2⟩
                    simp only [RelV]
                    refine ⟨_, Ren.add_same _ _ _, hes, ?_, ?_⟩
                    · simp only [hsize]
                      have : (len + n) * ie.size ≤ cap * ie.size := Nat.mul_le_mul_right _ (by omega)
                      omega
                    · simp only [hsize, Nat.sub_zero, Nat.mul_div_cancel _ hes]
                | false =>
                  simp only at hA
                  cases h0 : Nat.beq off 0 with
                  | false => rw [h0] at hA; cases hA
                  | true =>
                    rw [h0, cond_true] at hA; cases hA
                    obtain rfl := Nat.eq_of_beq_eq_true h0
                    have hsz' : size = len * ie.size := by omega
                    have hcells : ∀ (u : Array Value), (∀ j, j < size → u[j]? = cb[j]?) → (∀ j, j < new.length → u[size + j]? = c[j]?) →
                        ∀ j, j < size + new.length → ∃ a v, (t.putList size new).get j = some a ∧ u[j]? = some v ∧ RelV ρ a v ∧ a.one = true := fun u hu1 hu2 j hj => by
                      rw [Tree.get_putList]
                      by_cases hjs : j < size
                      · obtain ⟨a, v, m1, m2, m3, m4⟩ := k5 j hjs
                        exact ⟨a, v, by rw [if_neg (by omega)]; exact m1, by rw [hu1 j hjs]; exact m2, m3, m4⟩
                      · have hj' : j - size < new.length := by omega
                        obtain ⟨v, hv, hr⟩ := hrel.get (List.getElem?_eq_getElem hj')
                        refine ⟨new[j - size], v, by rw [if_pos (by omega)]; exact List.getElem?_eq_getElem hj', ?_, hr, noAggs_one hno _ (List.getElem_mem hj')⟩
                        have := hu2 (j - size) hj'
                        rw [show size + (j - size) = j from by omega] at this
                        rw [this]
                        simpa using hv
                    by_cases hfit : len + n ≤ (l.n - 0) / ie.size
                    · have hroom := (slice_cap hes (by omega)).1 hfit
                      rw [Nat.add_mul] at hroom
                      obtain ⟨w', c', r1, r2, r3, r4, r5, r6, r7⟩ := storeCells_run (P := P) l.b size c.toList 0 cb e' fz w k1 (by simp only [Array.length_toList]; omega) (fun j hj => k6 trivial j (by omega)) (fun v hm => by
                        obtain ⟨j, hj, rfl⟩ := List.getElem_of_mem hm
                        have hj' : j < new.length := by simp only [Array.length_toList] at hj; omega
                        obtain ⟨y, hy, hr⟩ := hrel.get (List.getElem?_eq_getElem hj')
                        rw [List.getElem?_eq_getElem hj] at hy; cases hy
                        exact hr.one (noAggs_one hno _ (List.getElem_mem hj')))
                      have hrun := append_head (w := w) (sLen := len) (sCap := (l.n - 0) / ie.size) (base := some ⟨l.b, 0, none⟩) hu hx hd hi hlen ty c hfirst hfit
                      simp only [addr_add, Nat.zero_add] at hrun
                      rw [← hsz', r1] at hrun
                      have hmv := h.move (o₂ := .cells (t.putList size new) (size + new.length) e false false) ho rfl hl r2 r7 r3 (by
                        rw [r4]
                        simp only [RelO]
                        have hle := Ren.le_add (l := l) (h.fresh _ (Nat.le_refl _))
                        refine ⟨c', e', fz, rfl, by omega, by omega, ?_, fun j hj => ?_, k6⟩
                        · intro hh; cases hh
                        · obtain ⟨a, v, m1, m2, m3, m4⟩ := hcells c' (fun j hj => by rw [r6 j, if_neg (by omega)]) (fun j hj => by
                            rw [r6 (size + j), if_pos (by simp only [Array.length_toList]; omega), show size + j - (size + 0) = j from by omega]
                            simp) j hj
                          exact ⟨a, v, m1, m2, RelV.mono hle _ _ m3, m4⟩)
                      refine ⟨_, _, rfl, _, _, w', hrun, ?_, hmv.1, hmv.2⟩
                      simp only [RelV]
                      exact ⟨l, Ren.add_same _ _ _, hes, by rw [Nat.add_mul]; omega, rfl⟩
                    · obtain ⟨w', cap, hcap, ⟨hheap, hstl⟩, hrun⟩ := append_more (w := w) (sLen := len) (sCap := (l.n - 0) / ie.size) (base := some ⟨l.b, 0, none⟩) hu hx hd hi hzv hlen ty c (cb.extract 0 size) (by omega) hby0 hby hmost hfirst' (fun w' hw' => by
                        have hr := run_loadCells_list (P := P) w' ⟨l.b, 0, none⟩ (cb.extract 0 size).toList (fun j v hv => by
                          rw [cell_same hw', addr_add, cell_of k1, Nat.zero_add]
                          simp only [Array.getElem?_toList, Array.getElem?_extract] at hv
                          split at hv
                          · simpa using hv
                          · cases hv)
                        have hle : (cb.extract 0 size).toList.length = len * ie.size := by simp; omega
                        rw [hle, Array.toArray_toList] at hr
                        exact hr)
                      obtain ⟨hst1, hst2⟩ := h.strike i
                      have hesz : (cb.extract 0 size).size = size := by simp; omega
                      have hp := pushCells_rel hst1 e (size := size + new.length) (t := t.putList size new) (c := cb.extract 0 size ++ c ++ Builtin.zeroCells zv.cells (cap - (len + n))) elem (by
                          simp only [Array.size_append, hesz]; omega)
                        (hcells _ (fun j hj => by
                            rw [Array.append_assoc, Array.getElem?_append, if_pos (by rw [hesz]; exact hj), Array.getElem?_extract, if_pos (by omega), Nat.zero_add]) (fun j hj => by
                            rw [Array.append_assoc, Array.getElem?_append, if_neg (by rw [hesz]; omega), hesz, Nat.add_sub_cancel_left, Array.getElem?_append, if_pos (by omega)])) hheap hstl
                      have hsize : (cb.extract 0 size ++ c ++ Builtin.zeroCells zv.cells (cap - (len + n))).size = cap * ie.size := by
                        simp only [Array.size_append, zeroCells_size, hesz, hcl, hnl, hzs, hzl]
                        rw [hsz', ← Nat.add_mul]
                        exact mul_split _ (by omega)
                      refine ⟨_, _, rfl, _, _, w', hrun, ?_, hp.1, hst2.trans hp.2⟩
                      simp only [RelV]
                      refine ⟨_, Ren.add_same _ _ _, hes, ?_, ?_⟩
                      · simp only [hsize]
                        have : (len + n) * ie.size ≤ cap * ie.size := Nat.mul_le_mul_right _ (by omega)
                        omega
                      · simp only [hsize, Nat.sub_zero, Nat.mul_div_cancel _ hes]
      · cases hA
end Go.Am
set_option linter.unusedSectionVars false
namespace Go.Am
variable {P : Program} [Orc P] [OrcOk P] {ρ : Ren} {H : AHeap} {w : World} {ev : Operand → Option AV} {evc : Operand → Value} {o : Oper}

def OutRel (P : Program) [Orc P] [OrcOk P] (ρ : Ren) (H : AHeap) (w : World) (r : Result Next) : AOut → Prop
  | .value a H' => RunsV P ρ H w r a H'
  | .skip H' => RunsS P ρ H w r H'
  | .enter f args => ∃ args', r = .ok (.enter f args') w ∧ RelL ρ args args'.toList
  | .yield l args => ∃ loc args', ρ l = some loc ∧ r = (Instr.yield loc.b args').run P w ∧ RelL ρ args args'.toList
  | .defer d => ∃ dc, r = .ok (.defer dc) w ∧ RelDef ρ d dc
  | .recover => r = .ok .recover w
  | .panic a => ∃ v, r = .halt (.panic v) w ∧ RelV ρ a v

theorem lenA_rel (h : RelH P ρ H w) {t : TypeId} {x r : AV} {x' : Value} (hl : lenA P H t x = some r) (rx : RelV ρ x x') (ty : TypeId) (us : List TypeId) (xs : List Value) :
    ∃ v, (Builtin.len_ (t :: us).toArray ty (x' :: xs).toArray).run P w = .ok v w ∧ RelV ρ r v := by
  unfold lenA at hl
  cases hu : und P t with
  | none => rw [hu] at hl; cases hl
  | some d =>
    rw [hu] at hl
    simp only at hl
    unfold Builtin.len_
    simp only [List.getElem?_toArray, List.getElem?_cons_zero, Sem.run_bind, run_und hu, Result.andThen_ok]
    split at hl
    · cases hl; simp only [RelV] at rx; subst rx
      exact ⟨_, rfl, by simp only [goI, RelV, goInt]; rfl⟩
    · cases hl
      exact ⟨_, rfl, by simp only [goI, RelV, goInt]; rfl⟩
    · cases hl; simp only [RelV] at rx; obtain ⟨l, _, _, _, rfl⟩ := rx
      exact ⟨_, rfl, by simp only [goI, RelV, goInt]; rfl⟩
    · cases hl; simp only [RelV] at rx; subst rx
      exact ⟨_, rfl, by simp only [goI, RelV, goInt]; rfl⟩
    · cases hl; simp only [RelV] at rx; subst rx
      exact ⟨_, rfl, by simp only [goI, RelV, goInt]; rfl⟩
    · rename_i i
      split at hl
      case h_2 => cases hl
      rename_i es clock ro ho
      cases hl
      simp only [RelV] at rx
      obtain ⟨l, hl, rfl⟩ := rx
      obtain ⟨l', h1, _, h3⟩ := h.obj i _ ho
      rw [hl] at h1; cases h1
      simp only [RelO] at h3
      obtain ⟨ec, k1, k2⟩ := h3
      have hlen := k2.length
      simp only [Array.length_toList] at hlen
      exact ⟨_, by simp [getObj_map k1]; rfl, by simp only [goI, RelV, goInt, hlen]; rfl⟩
    · cases hl

theorem maxA_rel : ∀ {l : List AV} {l' : List Value} {x r : AV} {x' : Value}, RelL ρ l l' → RelV ρ x x' → maxA x l = some r → ∃ v, (l'.foldlM Builtin.max2 x').run P w = .ok v w ∧ RelV ρ r v
  | [], l', x, r, x', hl, hx, h => by
    simp only [RelL] at hl; subst hl
    unfold maxA at h; cases h
    exact ⟨x', rfl, hx⟩
  | a :: l, l', x, r, x', hl, hx, h => by
    simp only [RelL] at hl
    obtain ⟨v, vs, rfl, ha, hrest⟩ := hl
    cases x <;> cases a <;> simp only [maxA] at h <;> (try cases h)
    rename_i k m j n
    cases hk : kindEq k j with
    | false => rw [hk] at h; cases h
    | true =>
      rw [hk, cond_true] at h
      simp only [RelV] at hx ha
      have e : RelV ρ (.int k (bif ile n m then m else n)) (.int k (if n > m then n else m)) := by
        simp only [RelV]
        rw [ile_eq]
        by_cases hh : n ≤ m
        · rw [if_neg (by omega)]; simp [hh]
        · rw [if_pos (by omega)]; simp [hh]
      obtain ⟨u, h1, h2⟩ := maxA_rel hrest e h
      refine ⟨u, ?_, h2⟩
      simp only [List.foldlM_cons, Sem.run_bind, hx, ha, Builtin.max2, Sem.run_pure, Result.andThen_ok]
      exact h1
theorem minA_rel : ∀ {l : List AV} {l' : List Value} {x r : AV} {x' : Value}, RelL ρ l l' → RelV ρ x x' → minA x l = some r → ∃ v, (l'.foldlM Builtin.min2 x').run P w = .ok v w ∧ RelV ρ r v
  | [], l', x, r, x', hl, hx, h => by
    simp only [RelL] at hl; subst hl
    unfold minA at h; cases h
    exact ⟨x', rfl, hx⟩
  | a :: l, l', x, r, x', hl, hx, h => by
    simp only [RelL] at hl
    obtain ⟨v, vs, rfl, ha, hrest⟩ := hl
    cases x <;> cases a <;> simp only [minA] at h <;> (try cases h)
    rename_i k m j n
    cases hk : kindEq k j with
    | false => rw [hk] at h; cases h
    | true =>
      rw [hk, cond_true] at h
      simp only [RelV] at hx ha
      have e : RelV ρ (.int k (bif ile m n then m else n)) (.int k (if n < m then n else m)) := by
        simp only [RelV]
        rw [ile_eq]
        by_cases hh : m ≤ n
        · rw [if_neg (by omega)]; simp [hh]
        · rw [if_pos (by omega)]; simp [hh]
      obtain ⟨u, h1, h2⟩ := minA_rel hrest e h
      refine ⟨u, ?_, h2⟩
      simp only [List.foldlM_cons, Sem.run_bind, hx, ha, Builtin.min2, Sem.run_pure, Result.andThen_ok]
      exact h1

/- Slices of strings and slices. -/
theorem natOf_rel {v : AV} {v' : Value} {n : Nat} (h : natOf v = some n) (rv : RelV ρ v v') (y : Nat) (c : BoundsCode) (hn : n ≤ y) : (Instr.sliceBound v' y c).run P w = .ok n w := by
  unfold natOf at h
  split at h
  case h_2 => cases h
  cases h
  simp only [RelV] at rv; subst rv
  unfold Instr.sliceBound
  have hb : (0 : Int) ≤ Int.ofNat n ∧ Int.ofNat n ≤ (y : Int) := ⟨Int.natCast_nonneg n, Int.ofNat_le.2 hn⟩
  simp only [asIntOf, Sem.run_bind, Sem.run_pure, Result.andThen_ok, Sem.run_ite, if_pos hb]
  rfl
/-- A bound that may lack. -/
def RelB (ρ : Ren) : Option AV → Option Value → Prop
  | none, v => v = none
  | some a, v => ∃ u, v = some u ∧ RelV ρ a u
theorem bounds_rel {lo hi : Option AV} {lo' hi' : Option Value} {isSlice : Bool} {len cap l h : Nat} (rl : RelB ρ lo lo') (rh : RelB ρ hi hi')
    (e1 : boundOf lo 0 = some l) (e2 : boundOf hi len = some h) (h1 : l ≤ h) (h2 : h ≤ len) (h3 : len ≤ cap) : (Instr.sliceBounds isSlice len cap lo' hi' none).run P w = .ok (l, h, cap) w := by
  unfold Instr.sliceBounds
  cases hi with
  | none =>
    simp only [RelB] at rh; subst rh
    unfold boundOf at e2; cases e2
    cases lo with
    | none =>
      simp only [RelB] at rl; subst rl
      unfold boundOf at e1; cases e1
      rfl
    | some v =>
      simp only [RelB] at rl
      obtain ⟨u, rfl, ru⟩ := rl
      simp [natOf_rel (w := w) e1 ru len _ h1]
  | some q =>
    simp only [RelB] at rh
    obtain ⟨p, rfl, rp⟩ := rh
    have k := fun c => natOf_rel (P := P) (w := w) e2 rp cap c (by omega)
    cases lo with
    | none =>
      simp only [RelB] at rl; subst rl
      unfold boundOf at e1; cases e1
      simp [k]
    | some v =>
      simp only [RelB] at rl
      obtain ⟨u, rfl, ru⟩ := rl
      simp [k, natOf_rel (w := w) e1 ru h _ h1]

theorem sliceA_rel {t : TypeId} {x r : AV} {x' : Value} {lo hi : Option AV} {lo' hi' : Option Value} (hs : sliceA P t x lo hi = some r) (rx : RelV ρ x x') (rl : RelB ρ lo lo') (rh : RelB ρ hi hi') :
    ∃ v, (Instr.sliceAt t x' lo' hi' none).run P w = .ok v w ∧ RelV ρ r v := by
  unfold sliceA at hs
  split at hs
  case h_3 => cases hs
  · rename_i hu
    split at hs
    case h_2 => cases hs
    rename_i s
    split at hs
    case h_2 => cases hs
    rename_i l hh e1 e2
    cases hb : (Nat.ble l hh && Nat.ble hh s.length) with
    | false => rw [hb] at hs; cases hs
    | true =>
      rw [hb, cond_true] at hs; cases hs
      rw [Bool.and_eq_true] at hb
      have b1 := Nat.le_of_ble_eq_true hb.1
      have b2 := Nat.le_of_ble_eq_true hb.2
      simp only [RelV] at rx; subst rx
      have k := bounds_rel (P := P) (w := w) (isSlice := false) (cap := s.length) rl rh e1 e2 b1 b2 (Nat.le_refl _)
      refine ⟨.string ((⟨⟨s⟩⟩ : ByteArray).extract l hh), ?_, ?_⟩
      · unfold Instr.sliceAt Instr.slice
        have hsz : (⟨⟨s⟩⟩ : ByteArray).size = s.length := rfl
        simp [run_und hu, hsz, k]
      · simp only [RelV]
        congr 1
        apply ByteArray.ext
        rw [ByteArray.data_extract]
        apply Array.ext'
        rw [Array.toList_extract, List.extract_eq_take_drop]
  · rename_i elem hu
    split at hs
    case h_1 => cases hs
    rename_i m hm
    split at hs
    case h_3 => cases hs
    · split at hs
      case h_2 => cases hs
      rename_i e1 e2
      cases hs
      simp only [RelV] at rx; subst rx
      have k := bounds_rel (P := P) (w := w) (isSlice := true) (cap := 0) rl rh e1 e2 (Nat.le_refl _) (Nat.le_refl _) (Nat.le_refl _)
      refine ⟨.slice none 0 0, ?_, by simp only [RelV]⟩
      unfold Instr.sliceAt Instr.slice
      simp [run_und hu, k, run_size hm]
    · rename_i i off len es
      split at hs
      case h_2 => cases hs
      rename_i l hh e1 e2
      cases hb : (Nat.ble l hh && Nat.ble hh len && (Nat.blt l len || Nat.beq l 0) && Nat.beq m es) with
      | false => rw [hb] at hs; cases hs
      | true =>
        rw [hb, cond_true] at hs; cases hs
        rw [Bool.and_eq_true, Bool.and_eq_true, Bool.and_eq_true, Bool.or_eq_true] at hb
        have b1 := Nat.le_of_ble_eq_true hb.1.1.1
        have b2 := Nat.le_of_ble_eq_true hb.1.1.2
        have b3 : l < len ∨ l = 0 := hb.1.2.imp (fun q => Nat.lt_of_succ_le (Nat.le_of_ble_eq_true q)) (fun q => Nat.eq_of_beq_eq_true q)
        obtain rfl := Nat.eq_of_beq_eq_true hb.2
        simp only [RelV] at rx
        obtain ⟨loc, hl, hes, hroom, rfl⟩ := rx
        have hcap : len ≤ (loc.n - off) / m := by rw [Nat.le_div_iff_mul_le hes]; omega
        have k := bounds_rel (P := P) (w := w) (isSlice := true) (cap := (loc.n - off) / m) rl rh e1 e2 b1 b2 hcap
        have hmul : l * m ≤ len * m := Nat.mul_le_mul_right _ (by omega)
        refine ⟨.slice (some ⟨loc.b, off + l * m, none⟩) (hh - l) ((loc.n - off) / m - l), ?_, ?_⟩
        · unfold Instr.sliceAt Instr.slice
          simp only [Sem.run_bind, run_und hu, Result.andThen_ok, k, run_size hm, Sem.run_pure]
          congr 2
          by_cases hq : (loc.n - off) / m = l
          · rw [if_pos hq]
            have : l = 0 := by omega
            subst this
            simp
          · rw [if_neg hq]
            simp [addr_add]
        · simp only [RelV]
          refine ⟨loc, hl, hes, ?_, ?_⟩
          · have : (hh - l) * m ≤ (len - l) * m := Nat.mul_le_mul_right _ (by omega)
            rw [Nat.sub_mul len] at this
            omega
          · congr 1
            rw [← Nat.sub_sub, Nat.mul_comm l m, Nat.sub_mul_div]

theorem builtinA_rel (h : RelH P ρ H w) {b : Builtin} {ts : Array TypeId} {args : List AV} {args' : Array Value} {out : AOut} (hb : builtinA P H b ts.toList args = some out) (ra : RelL ρ args args'.toList) (ty : TypeId) (cs : Array Bool) :
    OutRel P ρ H w ((builtin b ts ty cs args').run P w) out := by
  obtain ⟨ts⟩ := ts
  obtain ⟨args'⟩ := args'
  simp only at hb ra
  unfold builtinA at hb
  split at hb
  · -- append
    rename_i t u s x
    simp only [RelL] at ra
    obtain ⟨s', _, rfl, rs, x', _, rfl, rx, rfl⟩ := ra
    obtain ⟨a, H', rfl, ρ', v, w', q1, q2, q3, q4⟩ := appendA_rel h hb rs rx ty
    refine ⟨ρ', v, w', ?_, q2, q3, q4⟩
    unfold builtin
    simp only [Sem.run_bind]
    have q1' : (Builtin.append_ [t, u].toArray ty [s', x'].toArray).run P w = .ok v w' := q1
    rw [q1']
    rfl
  · -- len
    rename_i t us x xs
    cases hl : lenA P H t x with
    | none => rw [hl] at hb; cases hb
    | some v =>
      rw [hl] at hb; cases hb
      simp only [RelL] at ra
      obtain ⟨x', xs', rfl, rx, _⟩ := ra
      obtain ⟨u, h1, h2⟩ := lenA_rel h hl rx ty us xs'
      refine RunsV.same h (v := u) ?_ h2
      unfold builtin
      simp only [Sem.run_bind, h1, Result.andThen_ok, Sem.run_pure]
  · -- max
    rename_i x l
    cases hm : maxA x l with
    | none => rw [hm] at hb; cases hb
    | some v =>
      rw [hm] at hb; cases hb
      simp only [RelL] at ra
      obtain ⟨x', l', rfl, rx, rl⟩ := ra
      obtain ⟨u, h1, h2⟩ := maxA_rel (P := P) (w := w) rl rx hm
      refine RunsV.same h (v := u) ?_ h2
      unfold builtin Builtin.max_
      simp only [Sem.run_bind, h1, Result.andThen_ok, Sem.run_pure]
  · -- min
    rename_i x l
    cases hm : minA x l with
    | none => rw [hm] at hb; cases hb
    | some v =>
      rw [hm] at hb; cases hb
      simp only [RelL] at ra
      obtain ⟨x', l', rfl, rx, rl⟩ := ra
      obtain ⟨u, h1, h2⟩ := minA_rel (P := P) (w := w) rl rx hm
      refine RunsV.same h (v := u) ?_ h2
      unfold builtin Builtin.min_
      simp only [Sem.run_bind, h1, Result.andThen_ok, Sem.run_pure]
  · -- panic
    rename_i t v
    cases hb
    simp only [RelL] at ra
    obtain ⟨x', _, rfl, rx, rfl⟩ := ra
    have rx' := rx
    simp only [RelV] at rx
    obtain ⟨u, rfl, _⟩ := rx
    refine ⟨.iface t u, ?_, rx'⟩
    unfold builtin
    simp [Instr.panic]
  · cases hb
    rfl
  · cases hb

theorem callA_rel {f : Fn} {args : List AV} {out : AOut} (hc : callA P f args = some out) : ∃ g, f = .func g ∧ out = .enter g args ∧ ∀ (args' : Array Value) (w : World), (callFunc g args').run P w = .ok (.enter g args') w := by
  unfold callA at hc
  split at hc
  case h_2 => cases hc
  rename_i g
  cases hg : (funcs P).get g with
  | none => rw [hg] at hc; cases hc
  | some fn =>
    rw [hg] at hc
    simp only at hc
    cases hb : fn.body with
    | none => rw [hb] at hc; cases hc
    | some c =>
      rw [hb] at hc
      simp only at hc
      cases hn : (fn.name == "runtime.NumGoroutine") with
      | true => rw [hn] at hc; cases hc
      | false =>
        rw [hn, cond_false] at hc; cases hc
        refine ⟨g, rfl, rfl, fun args' w => ?_⟩
        unfold callFunc
        simp only [Sem.run_bind, run_program, Result.andThen_ok, funcs_eq hg, hn, Bool.false_eq_true, if_false, hb, Option.isNone_some, Sem.run_pure]
end Go.Am
set_option linter.unusedSectionVars false
namespace Go.Am
variable {P : Program} [Orc P] [OrcOk P] {ρ : Ren} {H : AHeap} {w : World} {ev : Operand → Option AV} {evc : Operand → Value} {o : Oper}

theorem cond_some {α : Type} {b : Bool} {x y : Option α} {r : α} (h : (bif b then x else y) = some r) (hy : y = none) : b = true ∧ x = some r := by
  cases b with
  | true => exact ⟨rfl, h⟩
  | false => rw [cond_false, hy] at h; cases h

theorem update_out (h : RelH P ρ H w) (hev : ∀ x a, ev x = some a → RelV ρ a (evc x)) {t : TypeId} {m k x : Operand} {out : AOut}
    (hx : execA.updateA P H ev t m k x = some out) (hop : o.op = .mapUpdate t m k x ∨ o.op = .insert t m k x) : OutRel P ρ H w ((execOp evc o).run P w) out := by
  unfold execA.updateA at hx
  split at hx
  case h_2 => cases hx
  rename_i kt et i kv v ht hm hk hv
  split at hx
  case h_2 => cases hx
  rename_i es clock ho
  split at hx
  case h_2 => cases hx
  rename_i r0 hf hself
  cases hx
  exact mapUpdate_rel h hev ht hm hk hv ho hself hf hop

theorem slice_out (h : RelH P ρ H w) (hev : ∀ x a, ev x = some a → RelV ρ a (evc x)) {t : TypeId} {x : Operand} {lo hi : Option Operand} {v r : AV} {l hh : Option AV}
    (hx : ev x = some v)
    (hl : (match lo with
        | none => some none
        | some y => match ev y with
          | some u => some (some u)
          | none => none) = some l)
    (hhi : (match hi with
        | none => some none
        | some y => match ev y with
          | some u => some (some u)
          | none => none) = some hh)
    (hs : sliceA P t v l hh = some r) (hop : o.op = .slice t x lo hi none) : QuietV P ρ w ((execOp evc o).run P w) r := by
  have key : ∀ {y : Option Operand} {b : Option AV}, (match y with
        | none => some none
        | some y => match ev y with
          | some u => some (some u)
          | none => none) = some b → RelB ρ b (y.map evc) := by
    intro y b hb
    cases y with
    | none => cases hb; rfl
    | some y =>
      simp only at hb
      cases hy : ev y with
      | none => rw [hy] at hb; cases hb
      | some u => rw [hy] at hb; cases hb; exact ⟨_, rfl, hev _ _ hy⟩
  obtain ⟨u, h1, h2⟩ := sliceA_rel (w := w) hs (hev _ _ hx) (key hl) (key hhi)
  refine QuietV.same h (v := u) ?_ h2
  unfold execOp
  rw [hop]
  simp only [Option.map_none, Sem.run_bind, h1, Result.andThen_ok, Sem.run_pure]

theorem call_out (h : RelH P ρ H w) (hev : ∀ x a, ev x = some a → RelV ρ a (evc x)) {c : Call} {args : List AV} {out : AOut} (ha : evals ev c.args.toList = some args)
    (hx : (match c.callee with
      | .builtin b => builtinA P H b c.argTypes.toList args
      | .value f => match ev f with
        | some (.fn fn first captured) => callA P fn (first ++ args ++ captured)
        | some (.yieldf l) => some (.yield l args)
        | _ => none
      | .invoke _ _ => none) = some out) (hop : o.op = .call c) : OutRel P ρ H w ((execOp evc o).run P w) out := by
  have ra := evals_rel hev ha
  rw [← Array.toList_map] at ra
  unfold execOp
  rw [hop]
  simp only
  unfold resolve
  split at hx
  · rename_i b hc
    rw [hc]
    simp only [Sem.run_bind, Sem.run_pure, Result.andThen_ok, invoke]
    exact builtinA_rel h hx ra _ _
  · rename_i f hc
    rw [hc]
    simp only
    split at hx
    · rename_i fn first captured hf
      have rf := hev _ _ hf
      simp only [RelV] at rf
      obtain ⟨g, a, b, rfl, he, r1, r2⟩ := rf
      obtain ⟨g', hg, rfl, hrun⟩ := callA_rel hx
      cases hg
      refine ⟨a ++ c.args.map evc ++ b, ?_, ?_⟩
      · rw [he]
        simp only [Deferred.ofValue, Sem.run_bind, Sem.run_pure, Result.andThen_ok, invoke]
        exact hrun _ _
      · rw [Array.toList_append, Array.toList_append]
        exact (r1.append ra).append r2
    · rename_i l hf
      have rf := hev _ _ hf
      cases hx
      simp only [RelV] at rf
      obtain ⟨loc, hl, he⟩ := rf
      refine ⟨loc, c.args.map evc, hl, ?_, ra⟩
      rw [he]
      simp [Deferred.ofValue, Sem.run_bind, Sem.run_pure, Result.andThen_ok, invoke]
    · cases hx
  · cases hx

theorem defer_out (hev : ∀ x a, ev x = some a → RelV ρ a (evc x)) {c : Call} {args : List AV} {out : AOut} (ha : evals ev c.args.toList = some args)
    (hx : (match c.callee with
      | .value f => match ev f with
        | some (.fn fn first captured) => some (.defer (.call fn (first ++ args ++ captured)))
        | _ => none
      | _ => none) = some out) (hop : o.op = .defer c) : OutRel P ρ H w ((execOp evc o).run P w) out := by
  have ra := evals_rel hev ha
  rw [← Array.toList_map] at ra
  unfold execOp
  rw [hop]
  simp only
  unfold resolve
  split at hx
  · rename_i f hc
    rw [hc]
    simp only
    split at hx
    · rename_i fn first captured hf
      have rf := hev _ _ hf
      simp only [RelV] at rf
      obtain ⟨g, a, b, rfl, he, r1, r2⟩ := rf
      cases hx
      rw [he]
      refine ⟨⟨.fn (.func g) b, a ++ c.args.map evc⟩, ?_, ?_⟩
      · simp [Deferred.ofValue, Sem.run_bind, Sem.run_pure, Result.andThen_ok]
      · simp only [RelDef]
        refine ⟨g, b, rfl, rfl, ?_⟩
        simp only [Array.toList_append]
        exact (r1.append ra).append r2
    · cases hx
  · cases hx

theorem execA_rel (h : RelH P ρ H w) (hev : ∀ x a, ev x = some a → RelV ρ a (evc x)) {out : AOut} (hx : execA P H ev o = some out) : OutRel P ρ H w ((execOp evc o).run P w) out := by
  unfold execA at hx
  split at hx
  · -- move
    rename_i x hop
    split at hx
    case h_2 => cases hx
    rename_i v hv
    cases hx
    exact RunsV.same h (v := evc x) (by unfold execOp; rw [hop]; rfl) (hev _ _ hv)
  · -- assign
    rename_i x hop
    split at hx
    case h_2 => cases hx
    rename_i v hv
    cases hx
    exact RunsV.same h (v := evc x) (by unfold execOp; rw [hop]; rfl) (hev _ _ hv)
  · -- pick
    rename_i c a b hop
    split at hx
    · rename_i hc
      split at hx
      case h_2 => cases hx
      rename_i v hv
      cases hx
      have k := hev _ _ hc
      simp only [RelV] at k
      exact RunsV.same h (v := evc a) (by unfold execOp; rw [hop]; simp [k, asBool]) (hev _ _ hv)
    · rename_i hc
      split at hx
      case h_2 => cases hx
      rename_i v hv
      cases hx
      have k := hev _ _ hc
      simp only [RelV] at k
      exact RunsV.same h (v := evc b) (by unfold execOp; rw [hop]; simp [k, asBool]) (hev _ _ hv)
    · cases hx
  · -- alloc
    rename_i elem hop
    split at hx
    case h_2 => cases hx
    rename_i z hz
    obtain ⟨hb, hx⟩ := cond_some hx rfl
    cases hx
    exact alloc_rel h hz hb hop evc
  · -- box
    rename_i elem x hop
    split at hx
    case h_2 => cases hx
    rename_i v hv
    obtain ⟨hb, hx⟩ := cond_some hx rfl
    cases hx
    exact box_rel h (hev _ _ hv) hb hop
  · -- build
    rename_i t parts hop
    split at hx
    · rename_i z fs ps hz hu hp
      split at hx
      case h_1 => cases hx
      rename_i pl hpl
      split at hx
      case h_2 => cases hx
      rename_i cs hf
      cases hx
      exact (build_rel h hev hz hp hop hf (Or.inl ⟨fs, pl, hu, hpl, rfl⟩)).runs h
    · rename_i z n elem ps hz hu hp
      split at hx
      case h_1 => cases hx
      rename_i m hm
      split at hx
      case h_2 => cases hx
      rename_i cs hf
      cases hx
      exact (build_rel h hev hz hp hop hf (Or.inr ⟨n, elem, m, hu, hm, rfl⟩)).runs h
    · cases hx
  · -- buildSlice
    rename_i t len parts hop
    split at hx
    case h_2 => cases hx
    rename_i elem ps hu hp
    split at hx
    case h_2 => cases hx
    rename_i n z hn hz
    obtain ⟨hb, hx⟩ := cond_some hx rfl
    split at hx
    case h_2 => cases hx
    rename_i cs hf
    obtain ⟨hno, hx⟩ := cond_some hx rfl
    cases hx
    rw [Bool.and_eq_true, Bool.and_eq_true, Bool.and_eq_true] at hb
    exact buildSlice_rel h hev hu hn hz hp (Nat.le_of_ble_eq_true hb.1.1.1) (Nat.eq_of_beq_eq_true hb.1.1.2) (Nat.le_of_ble_eq_true hb.1.2) (Nat.le_of_ble_eq_true hb.2) hf hno hop
  · -- load
    rename_i t a hop
    split at hx
    case h_2 => cases hx
    rename_i i off ha
    split at hx
    case h_2 => cases hx
    rename_i v hv
    cases hx
    exact (load_rel h hev ha hv hop).runs h
  · -- store
    rename_i t a x hop
    split at hx
    case h_2 => cases hx
    rename_i i off v n ha hv hn
    obtain ⟨hb, hx⟩ := cond_some hx rfl
    split at hx
    case h_2 => cases hx
    rename_i H' hw
    cases hx
    exact store_rel h hev ha hv hn (Nat.eq_of_beq_eq_true hb) hw hop
  · -- nilCheck
    rename_i x hop
    split at hx
    · rename_i i off hv
      cases hx; exact (nilCheck_rel h hev hv hop (Or.inl ⟨i, off, rfl⟩)).runs h
    · rename_i i hv
      cases hx; exact (nilCheck_rel h hev hv hop (Or.inr (Or.inl ⟨i, rfl⟩))).runs h
    · rename_i f a b hv
      cases hx; exact (nilCheck_rel h hev hv hop (Or.inr (Or.inr (Or.inl ⟨f, a, b, rfl⟩)))).runs h
    · rename_i l hv
      cases hx; exact (nilCheck_rel h hev hv hop (Or.inr (Or.inr (Or.inr (Or.inl ⟨l, rfl⟩))))).runs h
    · rename_i t v hv
      cases hx; exact (nilCheck_rel h hev hv hop (Or.inr (Or.inr (Or.inr (Or.inr ⟨t, v, rfl⟩))))).runs h
    · cases hx
  · -- binOp
    rename_i op t a b u hop
    split at hx
    case h_2 => cases hx
    rename_i x y ha hb
    split at hx
    case h_2 => cases hx
    rename_i v hv
    cases hx
    exact (binOp_op h hev ha hb hv hop).runs h
  · -- unOp
    rename_i op t x hop
    split at hx
    · rename_i b hv
      cases hx; exact (unOp_not h hev hv hop).runs h
    · rename_i k n hv
      cases hx; exact (unOp_neg h hev hv hop).runs h
    · cases hx
  · -- convert
    rename_i s t x hop
    split at hx
    · rename_i d k j n hs ht hv
      cases hx; exact (convert_int h hev hs ht hv hop).runs h
    · rename_i b hs ht hv
      cases hx; exact (convert_str h hev hs ht hv hop).runs h
    · cases hx
  · -- makeInterface
    rename_i t x hop
    split at hx
    · cases hx
    · rename_i d v hne ht hv
      cases hx
      exact (makeInterface_rel h hev ht (fun ms hd => hne ms hd) hv hop).runs h
    · cases hx
  · -- makeFunc
    rename_i fn first captured hop
    split at hx
    case h_2 => cases hx
    rename_i f a b ha hb
    cases hx
    exact (makeFunc_rel h hev ha hb hop).runs h
  · -- makeMap
    rename_i t r hop
    split at hx
    · cases hx
      exact makeMap_rel h (Or.inl rfl) hop
    · rename_i x
      split at hx
      case h_2 => cases hx
      rename_i k e j n ht hv
      cases hx
      have rv := hev _ _ hv
      simp only [RelV] at rv
      exact makeMap_rel h (Or.inr ⟨x, k, e, j, n, rfl, ht, rv⟩) hop
  · -- slice
    rename_i t x lo hi mx hop
    split at hx
    case h_2 => cases hx
    rename_i v hv
    split at hx
    case h_2 => cases hx
    rename_i l hh hl hhi
    split at hx
    case h_2 => cases hx
    rename_i r hr
    cases hx
    exact (slice_out h hev hv hl hhi hr hop).runs h
  · -- fieldAddr
    rename_i s x f hop
    split at hx
    case h_2 => cases hx
    rename_i fs i off hs hv
    split at hx
    case h_2 => cases hx
    rename_i fd hf
    split at hx
    case h_2 => cases hx
    rename_i n hn
    cases hx
    exact (fieldAddr_rel h hev hs hv hf hn hop).runs h
  · -- field
    rename_i t x f hop
    split at hx
    case h_2 => cases hx
    rename_i fs cs ht hv
    split at hx
    case h_2 => cases hx
    rename_i fd hf
    split at hx
    case h_2 => cases hx
    rename_i v hp
    cases hx
    exact (field_rel h hev ht hv hf hp hop).runs h
  · -- indexAddr
    rename_i t x ix hop
    split at hx
    · rename_i elem i off len es k n ht hv hi
      split at hx
      case h_1 => cases hx
      rename_i m hm
      obtain ⟨hb, hx⟩ := cond_some hx rfl
      cases hx
      rw [Bool.and_eq_true] at hb
      have e := Nat.eq_of_beq_eq_true hb.2
      subst e
      exact (indexAddr_slice h hev ht hv hi hm (Nat.le_of_ble_eq_true hb.1) hop).runs h
    · rename_i len elem i off k n ht hv hi
      split at hx
      case h_1 => cases hx
      rename_i m hm
      obtain ⟨hb, hx⟩ := cond_some hx rfl
      cases hx
      exact (indexAddr_array h hev ht hv hi hm (Nat.le_of_ble_eq_true hb) hop).runs h
    · cases hx
  · -- index
    rename_i t x ix hop
    split at hx
    · rename_i s k n ht hv hi
      split at hx
      case h_2 => cases hx
      rename_i b hb
      cases hx
      exact (index_str h hev ht hv hi hb hop).runs h
    · rename_i len elem cs k n ht hv hi
      obtain ⟨hb, hx⟩ := cond_some hx rfl
      split at hx
      case h_1 => cases hx
      rename_i m hm
      split at hx
      case h_2 => cases hx
      rename_i v hp
      cases hx
      exact (index_array h hev ht hv hi hm (Nat.le_of_ble_eq_true hb) hp hop).runs h
    · cases hx
  · -- lookup
    rename_i t x ix ok hop
    split at hx
    case h_2 => cases hx
    rename_i kt et m k ht hv hi
    split at hx
    case h_2 => cases hx
    rename_i es r0 z he hself hz
    split at hx
    · cases hx
    · rename_i j v hf
      cases hx
      exact (lookup_rel h hev ht hv hi he hself hz hf (by cases ok <;> rfl) hop).runs h
    · rename_i hf
      cases hx
      exact (lookup_rel h hev ht hv hi he hself hz hf (by cases ok <;> rfl) hop).runs h
  · rename_i t m k x hop
    exact update_out h hev hx (Or.inl hop)
  · rename_i t m k x hop
    exact update_out h hev hx (Or.inr hop)
  · -- extract
    rename_i t ix hop
    split at hx
    case h_2 => cases hx
    rename_i vs hv
    split at hx
    case h_2 => cases hx
    rename_i v hi
    cases hx
    exact (extract_rel h hev hv hi hop).runs h
  · -- typeAssert
    rename_i x xt t ok hop
    split at hx
    · cases hx
    · rename_i d hne ht hv
      obtain ⟨hb, hx⟩ := cond_some hx rfl
      split at hx
      case h_2 => cases hx
      rename_i z hz
      cases hx
      exact (typeAssert_rel h hev ht (fun ms hd => hne ms hd) hv (Or.inl ⟨rfl, hb, z, hz, rfl⟩) hop).runs h
    · rename_i d s v hne ht hv
      cases hb : Nat.beq s t with
      | true =>
        rw [hb, cond_true] at hx
        cases hx
        have e := Nat.eq_of_beq_eq_true hb
        subst e
        exact (typeAssert_rel h hev ht (fun ms hd => hne ms hd) hv (Or.inr (Or.inl ⟨v, rfl, by cases ok <;> rfl⟩)) hop).runs h
      | false =>
        rw [hb, cond_false] at hx
        obtain ⟨ho, hx⟩ := cond_some hx rfl
        split at hx
        case h_2 => cases hx
        rename_i z hz
        cases hx
        exact (typeAssert_rel h hev ht (fun ms hd => hne ms hd) hv (Or.inr (Or.inr ⟨s, v, rfl, Nat.ne_of_beq_eq_false hb, ho, z, hz, rfl⟩)) hop).runs h
    · cases hx
  · -- panic
    rename_i x hop
    split at hx
    case h_2 => cases hx
    rename_i t v hv
    cases hx
    have rv := hev _ _ hv
    have rv' := rv
    simp only [RelV] at rv
    obtain ⟨u, he, _⟩ := rv
    refine ⟨.iface t u, ?_, he ▸ rv'⟩
    unfold execOp
    rw [hop]
    simp [he, Instr.panic]
  · -- call
    rename_i c hop
    split at hx
    · cases hx
    · rename_i args ha
      exact call_out h hev ha hx hop
  · -- defer
    rename_i c hop
    split at hx
    · cases hx
    · rename_i args ha
      exact defer_out hev ha hx hop
  · cases hx

/- The answers from outside. -/
theorem askA_cls {v : AV} (hx : askA P ev o = some v) : (clsOf o = .pure ∨ clsOf o = .reads) ∧ askEv P ev o = some v := by
  unfold askA at hx
  obtain ⟨_, hx⟩ := cond_some hx rfl
  split at hx
  · rename_i hc; exact ⟨Or.inl hc, hx⟩
  · rename_i hc; exact ⟨Or.inr hc, hx⟩
  · cases hx
theorem askA_quiet (h : RelH P ρ H w) (hev : ∀ x a, ev x = some a → RelV ρ a (evc x)) {v : AV} (hx : askA P ev o = some v) : QuietV P ρ w ((execOp evc o).run P w) v := by
  have hx := (askA_cls hx).2
  unfold askEv at hx
  split at hx
  case h_2 => cases hx
  rename_i avs ha
  obtain ⟨u, h1, h2⟩ := OrcOk.ok o avs v hx ρ h.base evc (evals_rel hev ha) w h.kept
  exact ⟨u, h2, h1⟩
theorem execO_cases {out : AOut} (hx : execO P H ev o = some out) : (∃ v, askA P ev o = some v ∧ out = .value v H) ∨ (askA P ev o = none ∧ execA P H ev o = some out) := by
  unfold execO at hx
  split at hx
  · rename_i v ha; cases hx; exact Or.inl ⟨v, ha, rfl⟩
  · rename_i ha; exact Or.inr ⟨ha, hx⟩
theorem execO_rel (h : RelH P ρ H w) (hev : ∀ x a, ev x = some a → RelV ρ a (evc x)) {out : AOut} (hx : execO P H ev o = some out) : OutRel P ρ H w ((execOp evc o).run P w) out := by
  rcases execO_cases hx with ⟨v, ha, rfl⟩ | ⟨_, hx⟩
  · exact (askA_quiet h hev ha).runs h
  · exact execA_rel h hev hx
theorem execO_eq (h1 : clsOf o ≠ .pure) (h2 : clsOf o ≠ .reads) : execO P H ev o = execA P H ev o := by
  unfold execO
  split
  · rename_i v ha
    rcases (askA_cls ha).1 with h | h
    · exact absurd h h1
    · exact absurd h h2
  · rfl
end Go.Am
