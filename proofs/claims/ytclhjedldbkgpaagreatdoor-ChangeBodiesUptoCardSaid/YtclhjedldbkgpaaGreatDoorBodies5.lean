/-
  Part 5 of the proof that winch/winchlaw25.ChangeBodies returns true for every two bodies of small bulk: lemmas.
  Conditions: none beyond each theorem's own premises.
  What lies here:
  The small evaluator's operations against the machine's, second part: memory, fields, indexes, slices.
  The small evaluator's operations against the machine's, third part: fields, indexes, slices, tuples, map keys.
  The small evaluator's operations against the machine's, fourth part: maps, appends, lengths.
  The small evaluator's operations against the machine's, fifth part: stores into maps, appends, lengths.
-/
import Derived.Test.YtclhjedldbkgpaaGreatDoorBodies4
set_option linter.unusedVariables false
set_option linter.unusedSimpArgs false
set_option linter.unusedSectionVars false
namespace Go.Am
variable {P : Program} [Orc P] [OrcOk P] {ρ : Ren} {H : AHeap} {w : World} {ev : Operand → Option AV} {evc : Operand → Value} {o : Oper}

theorem repeatCells_length (z : List AV) : ∀ n, (repeatCells z n).length = n * z.length
  | 0 => by simp [repeatCells]
  | n + 1 => by simp only [repeatCells, List.length_append, repeatCells_length z n]; rw [Nat.succ_mul]; omega
theorem repeatCells_get {z : List AV} (hz : 0 < z.length) : ∀ (n i : Nat), i < n * z.length → (repeatCells z n)[i]? = z[i % z.length]?
  | 0, i, h => by omega
  | n + 1, i, h => by
    simp only [repeatCells]
    rw [List.getElem?_append]
    by_cases hi : i < z.length
    · rw [if_pos hi, Nat.mod_eq_of_lt hi]
    · rw [if_neg hi, repeatCells_get hz n (i - z.length) (by rw [Nat.succ_mul] at h; omega), ← Nat.mod_eq_sub_mod (by omega)]
theorem repeat_rel {z : List AV} {zc : Array Value} (h : RelL ρ z zc.toList) (hz : 0 < z.length) (n : Nat) :
    RelL ρ (repeatCells z n) ((Array.range (n * zc.size)).map (zc[· % zc.size]!)).toList := by
  have hl := h.length
  simp only [Array.length_toList] at hl
  refine RelL.mk (by simp [repeatCells_length, hl]) fun i x hx => ?_
  have hi : i < n * z.length := by rw [← repeatCells_length]; exact (List.getElem?_eq_some_iff.1 hx).1
  rw [repeatCells_get hz n i hi] at hx
  obtain ⟨v, hv, hr⟩ := h.get hx
  refine ⟨v, ?_, hr⟩
  simp only [Array.toList_map, Array.toList_range, List.getElem?_map]
  rw [List.getElem?_range (by rw [hl]; exact hi)]
  have hm : i % zc.size < zc.size := Nat.mod_lt _ (by omega)
  simp only [Option.map_some, hl]
  rw [← hl] at hv ⊢
  simp only [Array.getElem?_toList] at hv
  rw [getElem!_pos zc (i % zc.size) hm]
  rw [Array.getElem?_eq_getElem hm] at hv
  exact hv

theorem buildSlice_rel (h : RelH P ρ H w) {t elem : TypeId} {len n : Nat} {parts : Array (Nat × Operand)} {z : AV} {ps : List (Nat × AV)} {cs : List AV}
    (hev : ∀ x a, ev x = some a → RelV ρ a (evc x)) (hu : und P t = some (.slice elem)) (hn : sizeP P elem = some n) (hz : zeroP P elem = some z) (hp : evalParts ev parts.toList = some ps)
    (hmost : len * n ≤ most) (hzl : z.cells.length = n) (hpos : 0 < n) (hlen : 0 < len) (hf : fillA (fun i => some (i * n, n)) (repeatCells z.cells len) ps = some cs) (hno : noAggs cs = true) (hop : o.op = .buildSlice t len parts) :
    RunsV P ρ H w ((execOp evc o).run P w) (.slice H.next 0 len n) (H.row cs elem true) := by
  obtain ⟨v, hv, rv⟩ := zeroP_rel (ρ := ρ) (w := w) hz
  have hcl := rv.cells.length
  simp only [Array.length_toList] at hcl
  have hrep := repeat_rel rv.cells (by omega) len
  obtain ⟨rs, f1, f2, f3⟩ := fillA_rel (evalParts_rel hev hp) hrep hf
  have hlen2 := f2.length
  simp only [Array.length_toList] at hlen2
  have hsz : rs.size = len * n := by rw [hlen2, f3, repeatCells_length, hzl]
  have hr := row_rel h elem true hno f2 elem (w' := { w with heap := w.heap.push (.cells rs elem) }) rfl ⟨rfl, rfl⟩
  refine ⟨_, .slice (some ⟨w.heap.size, 0, none⟩) len len, _, ?_, ?_, hr.1, hr.2⟩
  · unfold execOp
    rw [hop]
    have e2 : (Array.map (fun x => (x.fst, evc x.snd)) parts).toList = parts.toList.map fun p => (p.1, evc p.2) := by simp
    have hnz : ¬ len * n = 0 := by
      have := Nat.mul_pos hlen hpos
      omega
    have hcap : ¬ len * n > 2 ^ 24 := by unfold most at hmost; omega
    have hcv : v.cells.size = n := by omega
    rw [hcv] at f1
    simp only [Sem.run_bind, Instr.buildSlice, run_und hu, Result.andThen_ok, run_size hn, Sem.run_ite, if_neg hcap, if_neg hnz, Sem.run_pure, hv, e2, hcv, f1]
    simp [newRow]
  · simp only [RelV]
    refine ⟨_, Ren.add_same _ _ _, hpos, by simp only; omega, ?_⟩
    simp only [hsz, Nat.sub_zero, Nat.mul_div_cancel _ hpos]

theorem load_rel (h : RelH P ρ H w) {t : TypeId} {a : Operand} {i off : Nat} {v : AV} (hev : ∀ x a, ev x = some a → RelV ρ a (evc x)) (ha : ev a = some (.ptr i off)) (hr : readVar P H t i off = some v) (hop : o.op = .load t a) :
    QuietV P ρ w ((execOp evc o).run P w) v := by
  have hp := hev _ _ ha
  simp only [RelV] at hp
  obtain ⟨l, hl, he⟩ := hp
  obtain ⟨loc, u, h1, h2, h3⟩ := readVar_rel h hr
  rw [hl] at h1; cases h1
  refine QuietV.same h ?_ h3
  unfold execOp
  rw [hop]
  simp only [he, Instr.loadAt, Instr.sureAddr, Sem.run_bind, Sem.run_pure, Result.andThen_ok, h2]

theorem store_rel (h : RelH P ρ H w) {t : TypeId} {a x : Operand} {i off n : Nat} {v : AV} {H' : AHeap} (hev : ∀ x a, ev x = some a → RelV ρ a (evc x)) (ha : ev a = some (.ptr i off)) (hx : ev x = some v)
    (hn : sizeP P t = some n) (hl : v.cells.length = n) (hw : writeCells H i off v.cells = some H') (hop : o.op = .store t a x) : RunsS P ρ H w ((execOp evc o).run P w) H' := by
  have hp := hev _ _ ha
  have hv := hev _ _ hx
  simp only [RelV] at hp
  obtain ⟨l, hl1, he⟩ := hp
  obtain ⟨loc, w', h1, h2, h3, h4⟩ := writeCells_rel h hw hv.cells
  rw [hl1] at h1; cases h1
  have hcl := hv.cells.length
  simp only [Array.length_toList] at hcl
  refine ⟨ρ, w', ?_, h3, h4⟩
  unfold execOp
  rw [hop]
  have hne : ¬ ((evc x).cells.size ≠ n) := by omega
  simp only [he, Instr.storeAt, Instr.sureAddr, storeVar, Sem.run_bind, Sem.run_pure, Result.andThen_ok, run_size hn, Sem.run_ite, if_neg hne, h2]

theorem nilCheck_rel (h : RelH P ρ H w) {x : Operand} {v : AV} (hev : ∀ x a, ev x = some a → RelV ρ a (evc x)) (hx : ev x = some v) (hop : o.op = .nilCheck x)
    (hv : (∃ i off, v = .ptr i off) ∨ (∃ i, v = .map i) ∨ (∃ f a b, v = .fn (.func f) a b) ∨ (∃ l, v = .yieldf l) ∨ ∃ t u, v = .iface t u) : QuietV P ρ w ((execOp evc o).run P w) v := by
  have hr := hev _ _ hx
  refine QuietV.same h (v := evc x) ?_ hr
  unfold execOp
  rw [hop]
  rcases hv with ⟨i, off, rfl⟩ | ⟨i, rfl⟩ | ⟨f, a, b, rfl⟩ | ⟨l, rfl⟩ | ⟨t, u, rfl⟩ <;> simp only [RelV] at hr
  · obtain ⟨l, _, he⟩ := hr; simp [he]
  · obtain ⟨l, _, he⟩ := hr; simp [he]
  · obtain ⟨g, a', c', hg, he, _, _⟩ := hr; simp [he]
  · obtain ⟨l, _, he⟩ := hr; simp [he]
  · obtain ⟨l, he, _⟩ := hr; simp [he]

theorem binOp_op (h : RelH P ρ H w) {op : BinOp} {t u : TypeId} {a b : Operand} {x y v : AV} (hev : ∀ x a, ev x = some a → RelV ρ a (evc x)) (ha : ev a = some x) (hb : ev b = some y) (hr : binA P op t a b x y = some v)
    (hop : o.op = .binOp op t a b u) : QuietV P ρ w ((execOp evc o).run P w) v := by
  obtain ⟨r, h1, h2⟩ := binA_rel (w := w) hr (hev _ _ ha) (hev _ _ hb)
  refine QuietV.same h (v := r) ?_ h2
  unfold execOp
  rw [hop]
  simp only [Sem.run_bind] at h1 ⊢
  rw [h1]
  rfl

theorem unOp_not (h : RelH P ρ H w) {t : TypeId} {x : Operand} {b : Bool} (hev : ∀ x a, ev x = some a → RelV ρ a (evc x)) (hx : ev x = some (.bool b)) (hop : o.op = .unOp .not t x) : QuietV P ρ w ((execOp evc o).run P w) (.bool (!b)) := by
  have hr := hev _ _ hx
  simp only [RelV] at hr
  refine QuietV.same h (v := .bool (!b)) ?_ (by simp only [RelV])
  unfold execOp
  rw [hop]
  simp [hr, Op.unary]
theorem unOp_neg (h : RelH P ρ H w) {t : TypeId} {x : Operand} {k : IntKind} {n : Int} (hev : ∀ x a, ev x = some a → RelV ρ a (evc x)) (hx : ev x = some (.int k n)) (hop : o.op = .unOp .neg t x) :
    QuietV P ρ w ((execOp evc o).run P w) (.int k (wrapA k (Int.sub 0 n))) := by
  have hr := hev _ _ hx
  simp only [RelV] at hr
  refine QuietV.same h (v := .int k (k.wrap (0 - n))) ?_ (by simp only [RelV]; rw [wrapA_eq]; rfl)
  unfold execOp
  rw [hop]
  simp [hr, Op.unary, Op.intArith]
theorem convert_int (h : RelH P ρ H w) {s t : TypeId} {d : TypeDesc} {x : Operand} {k j : IntKind} {n : Int} (hev : ∀ x a, ev x = some a → RelV ρ a (evc x)) (hs : und P s = some d) (ht : und P t = some (.int k)) (hx : ev x = some (.int j n)) (hop : o.op = .convert s t x) :
    QuietV P ρ w ((execOp evc o).run P w) (.int k (wrapA k n)) := by
  have hr := hev _ _ hx
  simp only [RelV] at hr
  refine QuietV.same h (v := .int k (k.wrap n)) ?_ (by simp only [RelV]; rw [wrapA_eq])
  unfold execOp
  rw [hop]
  simp only [Sem.run_bind, convert, run_und hs, run_und ht, Result.andThen_ok, hr]
  cases d <;> simp [Conv.intToInt]
theorem convert_str (h : RelH P ρ H w) {s t : TypeId} {x : Operand} {b : List UInt8} (hev : ∀ x a, ev x = some a → RelV ρ a (evc x)) (hs : und P s = some .string) (ht : und P t = some .string) (hx : ev x = some (.str b)) (hop : o.op = .convert s t x) :
    QuietV P ρ w ((execOp evc o).run P w) (.str b) := by
  have hr := hev _ _ hx
  simp only [RelV] at hr
  refine QuietV.same h (v := .string ⟨⟨b⟩⟩) ?_ (by simp only [RelV])
  unfold execOp
  rw [hop]
  simp [convert, run_und hs, run_und ht, hr]
theorem makeInterface_rel (h : RelH P ρ H w) {t : TypeId} {d : TypeDesc} {x : Operand} {v : AV} (hev : ∀ x a, ev x = some a → RelV ρ a (evc x)) (ht : und P t = some d) (hd : ∀ ms, d ≠ .interface ms) (hx : ev x = some v) (hop : o.op = .makeInterface t x) :
    QuietV P ρ w ((execOp evc o).run P w) (.iface t v) := by
  refine QuietV.same h (v := .iface t (evc x)) ?_ (by simp only [RelV]; exact ⟨_, rfl, hev _ _ hx⟩)
  unfold execOp
  rw [hop]
  simp only [Sem.run_bind, Instr.makeInterface, run_und ht, Result.andThen_ok]
  cases d <;> first | exact absurd rfl (hd _) | rfl
theorem makeFunc_rel (h : RelH P ρ H w) {f : FuncId} {first captured : Array Operand} {a b : List AV} (hev : ∀ x a, ev x = some a → RelV ρ a (evc x)) (ha : evals ev first.toList = some a) (hb : evals ev captured.toList = some b) (hop : o.op = .makeFunc (.func f) first captured) :
    QuietV P ρ w ((execOp evc o).run P w) (.fn (.func f) a b) := by
  refine QuietV.same h (v := .func (.func f) (first.map evc) (captured.map evc)) ?_ (by
    simp only [RelV]
    exact ⟨f, _, _, rfl, rfl, by simpa using evals_rel hev ha, by simpa using evals_rel hev hb⟩)
  unfold execOp
  rw [hop]
  rfl
theorem makeMap_rel (h : RelH P ρ H w) {t : TypeId} {r : Option Operand} (hr : r = none ∨ ∃ x k e j n, r = some x ∧ und P t = some (.map k e) ∧ evc x = .int j n) (hop : o.op = .makeMap t r) :
    RunsV P ρ H w ((execOp evc o).run P w) (.map H.next) (H.push (.map [] 0 false)) := by
  have hp := h.push (o := .map [] 0 false) (o' := .map #[] 0) (w' := { w with heap := w.heap.push (.map #[] 0) }) 0 rfl ⟨rfl, rfl⟩ (by simp only [RelO]; exact ⟨#[], rfl, by simp [RelE]⟩)
  refine ⟨_, .map (some w.heap.size), _, ?_, by simp only [RelV]; exact ⟨_, Ren.add_same _ _ _, rfl⟩, hp.1, hp.2⟩
  unfold execOp
  rw [hop]
  rcases hr with rfl | ⟨x, k, e, j, n, rfl, hu, hx⟩
  · simp [Instr.makeMap]
  · simp [Instr.makeMap, run_und hu, hx, asInt, asIntOf]

theorem fieldAddr_rel (h : RelH P ρ H w) {s : TypeId} {x : Operand} {f i off : Nat} {fs : Array Field} {fd : Field} (hev : ∀ x a, ev x = some a → RelV ρ a (evc x)) (hs : und P s = some (.struct fs)) (hx : ev x = some (.ptr i off)) (hf : fs.toList[f]? = some fd)
    {n : Nat} (hn : sizeP P fd.type = some (n + 1)) (hop : o.op = .fieldAddr s x f) :
    QuietV P ρ w ((execOp evc o).run P w) (.ptr i (off + fd.offset)) := by
  have hr := hev _ _ hx
  simp only [RelV] at hr
  obtain ⟨l, hl, he⟩ := hr
  refine QuietV.same h (v := .pointer (some ⟨l.b, off + fd.offset, none⟩)) ?_ (by simp only [RelV]; exact ⟨l, hl, rfl⟩)
  unfold execOp
  rw [hop]
  have hf' : fs[f]? = some fd := by simpa using hf
  simp only [Sem.run_bind, Instr.fieldAt, run_und hs, Result.andThen_ok, hf', he, Instr.sureAddr, Sem.run_pure, fieldPlace, run_size hn, Nat.succ_ne_zero, if_false, addr_add]
end Go.Am
set_option linter.unusedSectionVars false
namespace Go.Am
variable {P : Program} [Orc P] [OrcOk P] {ρ : Ren} {H : AHeap} {w : World} {ev : Operand → Option AV} {evc : Operand → Value} {o : Oper}

theorem partA_rel {t : TypeId} {cs : List AV} {c : Array Value} {off : Nat} {v : AV} (hc : RelL ρ cs c.toList) (hp : partA P t cs off = some v) : ∃ u, (part t c off).run P w = .ok u w ∧ RelV ρ v u := by
  unfold partA at hp
  cases ha : aggP P t with
  | none => simp [ha] at hp
  | some b =>
    cases b with
    | true =>
      simp only [ha] at hp
      cases hn : sizeP P t with
      | none => simp [hn] at hp
      | some n =>
        simp only [hn] at hp; cases hp
        refine ⟨.agg (c.extract off (off + n)), by unfold part; simp [run_agg ha, run_size hn], ?_⟩
        simp only [RelV]
        refine ⟨_, rfl, ?_⟩
        rw [Array.toList_extract, List.extract_eq_take_drop, Nat.add_sub_cancel_left]
        exact (hc.drop off).take n
    | false =>
      simp only [ha] at hp
      obtain ⟨u, h1, h2⟩ := hc.get hp
      exact ⟨u, part_run ha (by simpa using h1), h2⟩

theorem field_rel (h : RelH P ρ H w) {t : TypeId} {x : Operand} {f : Nat} {fs : Array Field} {fd : Field} {cs : List AV} {v : AV} (hev : ∀ x a, ev x = some a → RelV ρ a (evc x)) (ht : und P t = some (.struct fs)) (hx : ev x = some (.agg cs))
    (hf : fs.toList[f]? = some fd) (hp : partA P fd.type cs fd.offset = some v) (hop : o.op = .field t x f) : QuietV P ρ w ((execOp evc o).run P w) v := by
  have hr := hev _ _ hx
  simp only [RelV] at hr
  obtain ⟨c, he, hc⟩ := hr
  obtain ⟨u, h1, h2⟩ := partA_rel (w := w) hc hp
  refine QuietV.same h (v := u) ?_ h2
  unfold execOp
  rw [hop]
  have hf' : fs[f]? = some fd := by simpa using hf
  simp only [Sem.run_bind, Instr.field, run_und ht, Result.andThen_ok, hf', he, asAgg, Sem.run_pure, h1]

theorem indexAddr_slice (h : RelH P ρ H w) {t elem : TypeId} {x ix : Operand} {i off len es n : Nat} {k : IntKind} (hev : ∀ x a, ev x = some a → RelV ρ a (evc x)) (ht : und P t = some (.slice elem)) (hx : ev x = some (.slice i off len es))
    (hi : ev ix = some (.int k (.ofNat n))) (hm : sizeP P elem = some es) (hn : n < len) (hop : o.op = .indexAddr t x ix) : QuietV P ρ w ((execOp evc o).run P w) (.ptr i (off + n * es)) := by
  have hr := hev _ _ hx
  have hq := hev _ _ hi
  simp only [RelV] at hr hq
  obtain ⟨l, hl, _, _, he⟩ := hr
  refine QuietV.same h (v := .pointer (some ⟨l.b, off + n * es, none⟩)) ?_ (by simp only [RelV]; exact ⟨l, hl, rfl⟩)
  unfold execOp
  rw [hop]
  have hb : (0 : Int) ≤ Int.ofNat n ∧ Int.ofNat n < (len : Int) := ⟨Int.natCast_nonneg n, Int.ofNat_lt.2 hn⟩
  simp only [Sem.run_bind, Instr.indexAt, hq, asIntOf, Sem.run_pure, Result.andThen_ok, run_und ht, he, Sem.run_ite, if_pos hb, run_size hm]
  simp [addr_add]
theorem indexAddr_array (h : RelH P ρ H w) {t elem : TypeId} {x ix : Operand} {i off len m n : Nat} {k : IntKind} (hev : ∀ x a, ev x = some a → RelV ρ a (evc x)) (ht : und P t = some (.array len elem)) (hx : ev x = some (.ptr i off))
    (hi : ev ix = some (.int k (.ofNat n))) (hm : sizeP P elem = some m) (hn : n < len) (hop : o.op = .indexAddr t x ix) : QuietV P ρ w ((execOp evc o).run P w) (.ptr i (off + n * m)) := by
  have hr := hev _ _ hx
  have hq := hev _ _ hi
  simp only [RelV] at hr hq
  obtain ⟨l, hl, he⟩ := hr
  refine QuietV.same h (v := .pointer (some ⟨l.b, off + n * m, none⟩)) ?_ (by simp only [RelV]; exact ⟨l, hl, rfl⟩)
  unfold execOp
  rw [hop]
  have hb : (0 : Int) ≤ Int.ofNat n ∧ Int.ofNat n < (len : Int) := ⟨Int.natCast_nonneg n, Int.ofNat_lt.2 hn⟩
  simp only [Sem.run_bind, Instr.indexAt, hq, asIntOf, Sem.run_pure, Result.andThen_ok, run_und ht, he, Instr.sureAddr, Sem.run_ite, if_pos hb, run_size hm]
  simp [addr_add]
theorem index_str (h : RelH P ρ H w) {t : TypeId} {x ix : Operand} {s : List UInt8} {n : Nat} {k : IntKind} {b : UInt8} (hev : ∀ x a, ev x = some a → RelV ρ a (evc x)) (ht : und P t = some .string) (hx : ev x = some (.str s))
    (hi : ev ix = some (.int k (.ofNat n))) (hb : s[n]? = some b) (hop : o.op = .index t x ix) : QuietV P ρ w ((execOp evc o).run P w) (.int .u8 (.ofNat b.toNat)) := by
  have hr := hev _ _ hx
  have hq := hev _ _ hi
  simp only [RelV] at hr hq
  refine QuietV.same h (v := .int .u8 b.toNat) ?_ (by simp only [RelV]; rfl)
  unfold execOp
  rw [hop]
  have h0 : (0 : Int) ≤ Int.ofNat n := Int.natCast_nonneg n
  obtain ⟨hlt, hget⟩ := List.getElem?_eq_some_iff.1 hb
  have hs : (⟨⟨s⟩⟩ : ByteArray)[n]? = some b := by
    have : n < (⟨⟨s⟩⟩ : ByteArray).size := hlt
    rw [getElem?_pos (⟨⟨s⟩⟩ : ByteArray) n this]
    exact congrArg some hget
  simp only [Sem.run_bind, Instr.index, hq, asIntOf, Sem.run_pure, Result.andThen_ok, run_und ht, hr, if_pos h0]
  simp [hs]
theorem index_array (h : RelH P ρ H w) {t elem : TypeId} {x ix : Operand} {cs : List AV} {len m n : Nat} {k : IntKind} {v : AV} (hev : ∀ x a, ev x = some a → RelV ρ a (evc x)) (ht : und P t = some (.array len elem)) (hx : ev x = some (.agg cs))
    (hi : ev ix = some (.int k (.ofNat n))) (hm : sizeP P elem = some m) (hn : n < len) (hp : partA P elem cs (n * m) = some v) (hop : o.op = .index t x ix) : QuietV P ρ w ((execOp evc o).run P w) v := by
  have hr := hev _ _ hx
  have hq := hev _ _ hi
  simp only [RelV] at hr hq
  obtain ⟨c, he, hc⟩ := hr
  obtain ⟨u, h1, h2⟩ := partA_rel (w := w) hc hp
  refine QuietV.same h (v := u) ?_ h2
  unfold execOp
  rw [hop]
  have hb : (0 : Int) ≤ Int.ofNat n ∧ Int.ofNat n < (len : Int) := ⟨Int.natCast_nonneg n, Int.ofNat_lt.2 hn⟩
  simp only [Sem.run_bind, Instr.index, hq, asIntOf, Sem.run_pure, Result.andThen_ok, run_und ht, he, Sem.run_ite, if_pos hb, run_size hm]
  simp [h1]
theorem extract_rel (h : RelH P ρ H w) {t : Operand} {ix : Nat} {vs : List AV} {v : AV} (hev : ∀ x a, ev x = some a → RelV ρ a (evc x)) (hx : ev t = some (.tuple vs)) (hv : vs[ix]? = some v) (hop : o.op = .extract t ix) :
    QuietV P ρ w ((execOp evc o).run P w) v := by
  have hr := hev _ _ hx
  simp only [RelV] at hr
  obtain ⟨c, he, hc⟩ := hr
  obtain ⟨u, h1, h2⟩ := hc.get hv
  refine QuietV.same h (v := u) ?_ h2
  unfold execOp
  rw [hop]
  have : c[ix]? = some u := by simpa using h1
  simp [he, Instr.extract, this]

theorem typeAssert_rel (h : RelH P ρ H w) {x : Operand} {xt t : TypeId} {d : TypeDesc} {ok : Bool} {v r : AV} (hev : ∀ x a, ev x = some a → RelV ρ a (evc x)) (ht : und P t = some d) (hd : ∀ ms, d ≠ .interface ms) (hx : ev x = some v)
    (hr : (v = .nilIface ∧ ok = true ∧ ∃ z, zeroP P t = some z ∧ r = .tuple [z, .bool false]) ∨ (∃ u, v = .iface t u ∧ r = if ok then .tuple [u, .bool true] else u) ∨ (∃ s u, v = .iface s u ∧ s ≠ t ∧ ok = true ∧ ∃ z, zeroP P t = some z ∧ r = .tuple [z, .bool false]))
    (hop : o.op = .typeAssert x xt t ok) : QuietV P ρ w ((execOp evc o).run P w) r := by
  have hq := hev _ _ hx
  have key : ∃ u, (Instr.typeAssert (evc x) xt t ok).run P w = .ok u w ∧ RelV ρ r u := by
    unfold Instr.typeAssert
    simp only [Sem.run_bind, run_und ht, Result.andThen_ok]
    rcases hr with ⟨rfl, rfl, z, hz, rfl⟩ | ⟨u, rfl, rfl⟩ | ⟨s, u, rfl, hs, rfl, z, hz, rfl⟩
    · simp only [RelV] at hq
      obtain ⟨zv, e1, e2⟩ := zeroP_rel (ρ := ρ) (w := w) hz
      refine ⟨.tuple #[zv, .bool false], ?_, by simp only [RelV, RelL]; exact ⟨_, rfl, _, _, rfl, e2, _, _, rfl, rfl, rfl⟩⟩
      rw [hq]
      cases d <;> first | exact absurd rfl (hd _) | simp [e1]
    · simp only [RelV] at hq
      obtain ⟨u', he, hu⟩ := hq
      rw [he]
      cases ok with
      | true =>
        refine ⟨.tuple #[u', .bool true], ?_, by simp only [if_true, RelV, RelL]; exact ⟨_, rfl, _, _, rfl, hu, _, _, rfl, rfl, rfl⟩⟩
        cases d <;> first | exact absurd rfl (hd _) | simp
      | false =>
        refine ⟨u', ?_, by simpa using hu⟩
        cases d <;> first | exact absurd rfl (hd _) | simp
    · simp only [RelV] at hq
      obtain ⟨u', he, hu⟩ := hq
      obtain ⟨zv, e1, e2⟩ := zeroP_rel (ρ := ρ) (w := w) hz
      refine ⟨.tuple #[zv, .bool false], ?_, by simp only [RelV, RelL]; exact ⟨_, rfl, _, _, rfl, e2, _, _, rfl, rfl, rfl⟩⟩
      rw [he]
      cases d <;> first | exact absurd rfl (hd _) | simp [e1, hs]
  obtain ⟨u, h1, h2⟩ := key
  refine QuietV.same h (v := u) ?_ h2
  unfold execOp
  rw [hop]
  simp only [Sem.run_bind, h1, Result.andThen_ok, Sem.run_pure]

/- Keys of maps. -/
theorem eqScalar_self {x : AV} {r : Bool} (h : eqScalar x x = some r) : r = true := by
  cases x <;> simp only [eqScalar] at h <;> (try cases h)
  · rw [boolEq_eq]; simp
  · rename_i k n
    cases hk : kindEq k k with
    | false => simp [hk] at h
    | true => simp only [hk, cond_true] at h; cases h; rw [ieq_eq]; simp
  · rw [seq_eq]; simp
theorem checkKey_plain {t : TypeId} {d : TypeDesc} {x : AV} {x' : Value} (hu : und P t = some d) (hp : plainD d x = true) (rx : RelV ρ x x') (e : Bool) (n : Nat) : (Instr.checkKey e (n + 1) t x').run P w = .ok () w := by
  unfold Instr.checkKey
  simp only [Sem.run_bind, run_und hu, Result.andThen_ok]
  cases d <;> (try cases x <;> cases hp) <;> (try cases hp)
  all_goals first
    | rfl
    | (simp only [RelV] at rx; subst rx; rfl)
theorem checkKey_rel {t : TypeId} {x : AV} {x' : Value} {r : Bool} (h : keyEq P t x x = some r) (rx : RelV ρ x x') (e : Bool) (n : Nat) : (Instr.checkKey e (n + 2) t x').run P w = .ok () w := by
  unfold keyEq at h
  split at h
  · rename_i k hu
    split at h
    · exact checkKey_plain hu rfl rx e _
    · cases h
  · rename_i hu
    split at h
    · exact checkKey_plain hu rfl rx e _
    · cases h
  · rename_i hu
    split at h
    · exact checkKey_plain hu rfl rx e _
    · cases h
  · rename_i fs hu
    cases x <;> simp only at h <;> (try cases h)
    rename_i xs
    cases hs : P.stoodInHeld t with
    | true => simp [hs] at h
    | false =>
      simp only [hs, cond_false] at h
      simp only [RelV] at rx
      obtain ⟨c, rfl, hc⟩ := rx
      unfold Instr.checkKey
      simp only [Sem.run_bind, run_und hu, Result.andThen_ok]
      have key : ∀ (l : List Field), eqFields P l xs xs = some r → (forIn l PUnit.unit fun f (_ : PUnit) => (
          if f.name ≠ "_" then (do
            let p ← part f.type c f.offset
            Instr.checkKey e (n + 1) f.type p
            pure (ForInStep.yield PUnit.unit))
          else pure (ForInStep.yield PUnit.unit) : Sem (ForInStep PUnit))).run P w = .ok PUnit.unit w := by
        intro l
        induction l with
        | nil => intro _; rfl
        | cons f l ih =>
          intro hf
          unfold eqFields at hf
          split at hf
          case h_2 => cases hf
          rename_i d x y hd hx hy
          rw [hx] at hy; cases hy
          cases hb : (plainD d x && plainD d x && !(f.name == "_")) with
          | false => rw [hb] at hf; cases hf
          | true =>
            simp only [hb, cond_true] at hf
            simp only [Bool.and_eq_true, Bool.not_eq_true', beq_eq_false_iff_ne, ne_eq] at hb
            obtain ⟨⟨px, _⟩, hn⟩ := hb
            obtain ⟨x', ex, rx'⟩ := hc.get hx
            have p1 : (part f.type c f.offset).run P w = .ok x' w := part_run (plain_agg hd px) (by simpa using ex)
            have p2 := checkKey_plain (w := w) hd px rx' e n
            cases hsc : eqScalar x x with
            | none => simp [hsc] at hf
            | some b =>
              have := eqScalar_self hsc
              subst this
              simp only [hsc] at hf
              simp only [List.forIn_cons, Sem.run_bind]
              rw [if_pos hn]
              simp only [Sem.run_bind, p1, p2, Result.andThen_ok, Sem.run_pure]
              exact ih hf
      have hk := key fs.toList h
      rw [← Array.forIn_toList]
      rw [hk]
      rfl
  · cases h
end Go.Am
set_option linter.unusedSectionVars false
namespace Go.Am
variable {P : Program} [Orc P] [OrcOk P] {ρ : Ren} {H : AHeap} {w : World} {ev : Operand → Option AV} {evc : Operand → Value} {o : Oper}

/-- What a search gave, on both sides. -/
def RelF (ρ : Ren) : Option (Nat × AV) → Option (Nat × Value) → Prop
  | none, r => r = none
  | some (i, v), r => ∃ u, r = some (i, u) ∧ RelV ρ v u

theorem findNow_rel {t : TypeId} {d : TypeDesc} {k : AV} {k' : Value} (hu : und P t = some d) (hd : (∃ j, d = .int j) ∨ d = .string ∨ d = .bool) (rk : RelV ρ k k') :
    ∀ {es : List (AV × AV × Nat)} {fs : List MapEntry} {i : Nat} {r : Option (Nat × AV)}, RelE ρ es fs → findKeyA P t k es i = some r → ∃ r', Instr.findNow d k' fs i = some r' ∧ RelF ρ r r'
  | [], fs, i, r, he, h => by
    simp only [RelE] at he; subst he
    unfold findKeyA at h; cases h
    exact ⟨none, rfl, rfl⟩
  | (x, v, b) :: es, l, i, r, he, h => by
    simp only [RelE] at he
    obtain ⟨e, rest, rfl, hk, hv, _, hrest⟩ := he
    unfold findKeyA at h
    cases hq : keyEq P t k x with
    | none => simp [hq] at h
    | some b =>
      have hs : Instr.sameNow d k' e.key = some b := by
        unfold keyEq at hq
        rw [hu] at hq
        rcases hd with ⟨j, rfl⟩ | rfl | rfl
        · simp only at hq
          cases k <;> cases x <;> simp only at hq <;> (try cases hq) <;> simp only [RelV] at rk hk
          rename_i j1 a j2 c
          cases hj : kindEq j1 j2 with
          | false => simp [hj] at hq
          | true =>
            simp only [hj, cond_true] at hq; cases hq
            obtain rfl := kindEq_true hj
            rw [rk, hk]
            simp [Instr.sameNow, ieq_eq]
        · simp only at hq
          cases k <;> cases x <;> simp only at hq <;> (try cases hq) <;> simp only [RelV] at rk hk
          rw [rk, hk]
          simp only [Instr.sameNow, beq_toListBytes, ByteArray.toList_mk, seq_eq]
        · simp only at hq
          cases k <;> cases x <;> simp only at hq <;> (try cases hq) <;> simp only [RelV] at rk hk
          rw [rk, hk]
          simp [Instr.sameNow, boolEq_eq]
      unfold Instr.findNow
      rw [hs]
      cases b with
      | true => simp only [hq] at h; cases h; exact ⟨_, rfl, _, rfl, hv⟩
      | false => simp only [hq] at h; exact findNow_rel hu hd rk hrest h

theorem keyEq_struct {t : TypeId} {fs : Array Field} {x y : AV} {x' y' : Value} {r : Bool} (hu : und P t = some (.struct fs)) (h : keyEq P t x y = some r) (rx : RelV ρ x x') (ry : RelV ρ y y') : (Op.equal t x' y').run P w = .ok r w := by
  unfold keyEq at h
  rw [hu] at h
  simp only at h
  cases x <;> cases y <;> simp only at h <;> (try cases h)
  rename_i xs ys
  cases hs : P.stoodInHeld t with
  | true => simp [hs] at h
  | false =>
    simp only [hs, cond_false] at h
    simp only [RelV] at rx ry
    obtain ⟨c, rfl, rx⟩ := rx
    obtain ⟨d, rfl, ry⟩ := ry
    exact eqStruct_rel hu hs rx ry h 9998
theorem findAsking_rel {t : TypeId} {fs : Array Field} {k : AV} {k' : Value} (hu : und P t = some (.struct fs)) (rk : RelV ρ k k') :
    ∀ {es : List (AV × AV × Nat)} {l : List MapEntry} {i : Nat} {r : Option (Nat × AV)}, RelE ρ es l → findKeyA P t k es i = some r → ∃ r', (Instr.findAsking t k' l i).run P w = .ok r' w ∧ RelF ρ r r'
  | [], l, i, r, he, h => by
    simp only [RelE] at he; subst he
    unfold findKeyA at h; cases h
    exact ⟨none, rfl, rfl⟩
  | (x, v, b) :: es, l, i, r, he, h => by
    simp only [RelE] at he
    obtain ⟨e, rest, rfl, hk, hv, _, hrest⟩ := he
    unfold findKeyA at h
    cases hq : keyEq P t k x with
    | none => simp [hq] at h
    | some b =>
      have hs := keyEq_struct (w := w) hu hq rk hk
      unfold Instr.findAsking
      cases b with
      | true =>
        simp only [hq] at h; cases h
        exact ⟨some (i, e.val), by simp [hs], _, rfl, hv⟩
      | false =>
        simp only [hq] at h
        obtain ⟨r', h1, h2⟩ := findAsking_rel hu rk hrest h
        exact ⟨r', by simp [hs, h1], h2⟩
theorem findKey_rel {t : TypeId} {k : AV} {k' : Value} {es : List (AV × AV × Nat)} {l : List MapEntry} {r : Option (Nat × AV)} {r0 : Bool} (hself : keyEq P t k k = some r0) (rk : RelV ρ k k') (he : RelE ρ es l)
    (h : findKeyA P t k es 0 = some r) : ∃ r', (Instr.findKey t k' l).run P w = .ok r' w ∧ RelF ρ r r' := by
  have hself' := hself
  unfold keyEq at hself
  unfold Instr.findKey
  split at hself
  · rename_i j hu
    obtain ⟨r', h1, h2⟩ := findNow_rel hu (.inl ⟨j, rfl⟩) rk he h
    exact ⟨r', by simp [run_und hu, h1], h2⟩
  · rename_i hu
    obtain ⟨r', h1, h2⟩ := findNow_rel hu (.inr (.inl rfl)) rk he h
    exact ⟨r', by simp [run_und hu, h1], h2⟩
  · rename_i hu
    obtain ⟨r', h1, h2⟩ := findNow_rel hu (.inr (.inr rfl)) rk he h
    exact ⟨r', by simp [run_und hu, h1], h2⟩
  · rename_i fs hu
    cases es with
    | nil =>
      simp only [RelE] at he; subst he
      unfold findKeyA at h; cases h
      exact ⟨none, by simp [run_und hu, Instr.findNow], rfl⟩
    | cons x es =>
      obtain ⟨r', h1, h2⟩ := findAsking_rel (w := w) hu rk he h
      refine ⟨r', ?_, h2⟩
      obtain ⟨x1, x2, x3⟩ := x
      simp only [RelE] at he
      obtain ⟨e, rest, rfl, _⟩ := he
      simp [run_und hu, Instr.findNow, Instr.sameNow, h1]
  · cases hself

theorem RelE.length {es : List (AV × AV × Nat)} : ∀ {l : List MapEntry}, RelE ρ es l → l.length = es.length := by
  induction es with
  | nil => intro l h; simp only [RelE] at h; subst h; rfl
  | cons x es ih =>
    intro l h
    obtain ⟨a, b, c⟩ := x
    simp only [RelE] at h
    obtain ⟨e, rest, rfl, _, _, _, h5⟩ := h
    simp [ih h5]

theorem entries_rel (h : RelH P ρ H w) {m : AV} {m' : Value} {es : List (AV × AV × Nat)} (rm : RelV ρ m m') (he : entriesA H m = some es) :
    (m' = .map none ∧ es = []) ∨ ∃ b ec clock, m' = .map (some b) ∧ w.heap[b]? = some (.map ec clock) ∧ RelE ρ es ec.toList := by
  unfold entriesA at he
  split at he
  · cases he; simp only [RelV] at rm; exact .inl ⟨rm, rfl⟩
  · rename_i i
    split at he
    case h_2 => cases he
    rename_i es' clock ro ho
    cases he
    simp only [RelV] at rm
    obtain ⟨l, hl, hm⟩ := rm
    obtain ⟨l', h1, _, h3⟩ := h.obj i _ ho
    rw [hl] at h1; cases h1
    simp only [RelO] at h3
    obtain ⟨ec, k1, k2⟩ := h3
    exact .inr ⟨l.b, ec, clock, hm, k1, k2⟩
  · cases he

theorem getObj_map {b : Nat} {ec : Array MapEntry} {c : Nat} (h : w.heap[b]? = some (.map ec c)) : (getObj b).run P w = .ok (.map ec c) w := by simp [getObj, Sem.run, h]

theorem lookup_rel (h : RelH P ρ H w) {t kt et : TypeId} {x ix : Operand} {ok : Bool} {m k z r : AV} {es : List (AV × AV × Nat)} {r0 : Bool} {f : Option (Nat × AV)} (hev : ∀ x a, ev x = some a → RelV ρ a (evc x))
    (ht : und P t = some (.map kt et)) (hx : ev x = some m) (hi : ev ix = some k) (he : entriesA H m = some es) (hself : keyEq P kt k k = some r0) (hz : zeroP P et = some z) (hf : findKeyA P kt k es 0 = some f)
    (hr : r = match f with
      | some (_, v) => if ok then .tuple [v, .bool true] else v
      | none => if ok then .tuple [z, .bool false] else z) (hop : o.op = .lookup t x ix ok) : QuietV P ρ w ((execOp evc o).run P w) r := by
  have rm := hev _ _ hx
  have rk := hev _ _ hi
  obtain ⟨zv, hzv, rz⟩ := zeroP_rel (ρ := ρ) (w := w) hz
  have key : ∃ u, (Instr.lookup t (evc x) (evc ix) ok).run P w = .ok u w ∧ RelV ρ r u := by
    unfold Instr.lookup
    simp only [Sem.run_bind, run_und ht, Result.andThen_ok]
    rcases entries_rel h rm he with ⟨e1, rfl⟩ | ⟨b, ec, clock, e1, e2, hec⟩
    · rw [e1]
      have hec : RelE ρ [] (#[] : Array MapEntry).toList := by simp [RelE]
      obtain ⟨r', f1, f2⟩ := findKey_rel (w := w) hself rk hec hf
      have hc := checkKey_rel (w := w) hself rk (#[] : Array MapEntry).isEmpty 9998
      cases f with
      | none =>
        simp only [RelF] at f2; subst f2
        simp only at hr
        cases ok with
        | true => exact ⟨.tuple #[zv, .bool false], by simp at hc f1; simp [hc, f1, hzv], by rw [hr]; simp only [if_true, RelV, RelL]; exact ⟨_, rfl, _, _, rfl, rz, _, _, rfl, rfl, rfl⟩⟩
        | false => exact ⟨zv, by simp at hc f1; simp [hc, f1, hzv], by rw [hr]; simpa using rz⟩
      | some p =>
        obtain ⟨i, v⟩ := p
        simp only [RelF] at f2
        obtain ⟨u, rfl, hu⟩ := f2
        simp only at hr
        cases ok with
        | true => exact ⟨.tuple #[u, .bool true], by simp at hc f1; simp [hc, f1], by rw [hr]; simp only [if_true, RelV, RelL]; exact ⟨_, rfl, _, _, rfl, hu, _, _, rfl, rfl, rfl⟩⟩
        | false => exact ⟨u, by simp at hc f1; simp [hc, f1], by rw [hr]; simpa using hu⟩
    · rw [e1]
      have hg := getObj_map (P := P) e2
      obtain ⟨r', f1, f2⟩ := findKey_rel (w := w) hself rk hec hf
      have hc := checkKey_rel (w := w) hself rk ec.isEmpty 9998
      cases f with
      | none =>
        simp only [RelF] at f2; subst f2
        simp only at hr
        cases ok with
        | true => exact ⟨.tuple #[zv, .bool false], by simp [hg, hc, f1, hzv], by rw [hr]; simp only [if_true, RelV, RelL]; exact ⟨_, rfl, _, _, rfl, rz, _, _, rfl, rfl, rfl⟩⟩
        | false => exact ⟨zv, by simp [hg, hc, f1, hzv], by rw [hr]; simpa using rz⟩
      | some p =>
        obtain ⟨i, v⟩ := p
        simp only [RelF] at f2
        obtain ⟨u, rfl, hu⟩ := f2
        simp only at hr
        cases ok with
        | true => exact ⟨.tuple #[u, .bool true], by simp [hg, hc, f1], by rw [hr]; simp only [if_true, RelV, RelL]; exact ⟨_, rfl, _, _, rfl, hu, _, _, rfl, rfl, rfl⟩⟩
        | false => exact ⟨u, by simp [hg, hc, f1], by rw [hr]; simpa using hu⟩
  obtain ⟨u, h1, h2⟩ := key
  refine QuietV.same h (v := u) ?_ h2
  unfold execOp
  rw [hop]
  simp only [Sem.run_bind, h1, Result.andThen_ok, Sem.run_pure]
end Go.Am
set_option linter.unusedSectionVars false
namespace Go.Am
variable {P : Program} [Orc P] [OrcOk P] {ρ : Ren} {H : AHeap} {w : World} {ev : Operand → Option AV} {evc : Operand → Value} {o : Oper}

theorem RelE.snoc {k v : AV} {b : Nat} {e : MapEntry} (hk : RelV ρ k e.key) (hv : RelV ρ v e.val) (hb : e.born = b) : ∀ {es : List (AV × AV × Nat)} {l : List MapEntry}, RelE ρ es l → RelE ρ (es ++ [(k, v, b)]) (l ++ [e])
  | [], l, h => by
    simp only [RelE] at h; subst h
    simp only [List.nil_append, RelE]
    exact ⟨e, [], rfl, hk, hv, hb, rfl⟩
  | (a, c, d) :: es, l, h => by
    simp only [RelE] at h
    obtain ⟨f, rest, rfl, h1, h2, h3, h4⟩ := h
    simp only [List.cons_append, RelE]
    exact ⟨f, rest ++ [e], rfl, h1, h2, h3, RelE.snoc hk hv hb h4⟩

theorem update_run (h : RelH P ρ H w) {t kt et : TypeId} {m k x : Operand} {i clock : Nat} {es : List (AV × AV × Nat)} {kv v : AV} {r0 : Bool} (hev : ∀ x a, ev x = some a → RelV ρ a (evc x))
    (ht : und P t = some (.map kt et)) (hm : ev m = some (.map i)) (hk : ev k = some kv) (hx : ev x = some v) (ho : H.get i = some (.map es clock false)) (hself : keyEq P kt kv kv = some r0) (hf : findKeyA P kt kv es 0 = some none) :
    ∃ w', (Instr.mapUpdate t (evc m) (evc k) (evc x)).run P w = .ok () w' ∧ RelH P ρ (H.put i (.map (es ++ [(kv, v, clock)]) (clock + 1) false)) w' ∧ Ext ρ H w ρ (H.put i (.map (es ++ [(kv, v, clock)]) (clock + 1) false)) w' := by
  have rm := hev _ _ hm
  have rk := hev _ _ hk
  have rx := hev _ _ hx
  simp only [RelV] at rm
  obtain ⟨l, hl, em⟩ := rm
  obtain ⟨l', h1, h2, h3⟩ := h.obj i _ ho
  rw [hl] at h1; cases h1
  simp only [RelO] at h3
  obtain ⟨ec, k1, k2⟩ := h3
  obtain ⟨r', f1, f2⟩ := findKey_rel (w := w) hself rk k2 hf
  simp only [RelF] at f2; subst f2
  have hc := checkKey_rel (w := w) hself rk false 9998
  have hg := getObj_map (P := P) k1
  refine ⟨{ w with heap := w.heap.setIfInBounds l.b (.map (ec.push { key := evc k, val := evc x, born := clock }) (clock + 1)) }, ?_, ?_⟩
  · unfold Instr.mapUpdate
    simp only [Sem.run_bind, run_und ht, Result.andThen_ok, em, hg, hc, f1]
    simp [setObj, Sem.run, k1]
  · refine h.turn ho rfl hl (by simp) ⟨rfl, rfl⟩ (fun b hb => by simp [Ne.symm hb]) ?_
    simp only [RelO]
    refine ⟨ec.push { key := evc k, val := evc x, born := clock }, by simp [h2], ?_⟩
    rw [Array.toList_push]
    exact RelE.snoc (e := ⟨evc k, evc x, clock⟩) rk rx rfl k2

theorem mapUpdate_rel (h : RelH P ρ H w) {t kt et : TypeId} {m k x : Operand} {i clock : Nat} {es : List (AV × AV × Nat)} {kv v : AV} {r0 : Bool} (hev : ∀ x a, ev x = some a → RelV ρ a (evc x))
    (ht : und P t = some (.map kt et)) (hm : ev m = some (.map i)) (hk : ev k = some kv) (hx : ev x = some v) (ho : H.get i = some (.map es clock false)) (hself : keyEq P kt kv kv = some r0) (hf : findKeyA P kt kv es 0 = some none)
    (hop : o.op = .mapUpdate t m k x ∨ o.op = .insert t m k x) : RunsS P ρ H w ((execOp evc o).run P w) (H.put i (.map (es ++ [(kv, v, clock)]) (clock + 1) false)) := by
  obtain ⟨w', r1, r2, r3⟩ := update_run h hev ht hm hk hx ho hself hf
  refine ⟨ρ, w', ?_, r2, r3⟩
  unfold execOp
  rcases hop with hop | hop <;> rw [hop] <;> simp [r1]

/- Appends. -/
theorem growBy_le (n B : Nat) (hB : ∀ c, c < n → c + (c + 768) / 4 ≤ B) : ∀ (r c : Nat), c ≤ B → Builtin.growBy n r c ≤ B
  | 0, c, h => h
  | r + 1, c, h => by
    unfold Builtin.growBy
    split
    · exact h
    · exact growBy_le n B hB r _ (hB c (by omega))
theorem nextslicecap_le {n c : Nat} (h : c < n) : Builtin.nextslicecap n c ≤ 2 * n + 768 := by
  unfold Builtin.nextslicecap
  split
  · omega
  · split
    · omega
    · exact growBy_le n (2 * n + 768) (fun c hc => by omega) 4 c (by omega)

theorem zeroCells_size (z : Array Value) (n : Nat) : (Builtin.zeroCells z n).size = n * z.size := by simp [Builtin.zeroCells]

theorem cell_same {w' : World} (hw : w'.heap = w.heap) (a : Addr) : w'.cell? a = w.cell? a := by unfold World.cell?; rw [hw]

/-- The elements that are appended. -/
theorem appended_rel (h : RelH P ρ H w) {es n : Nat} {x : AV} {x' : Value} {new : List AV} (rx : RelV ρ x x') (ha : appended H es x = some (n, new)) :
    (Builtin.lenOf x').run P w = .ok n w ∧ ∃ c, (∀ w' : World, w'.heap = w.heap → (Builtin.firstCells es n x').run P w' = .ok c w') ∧ RelL ρ new c.toList ∧ new.length = n * es := by
  unfold appended at ha
  split at ha
  · cases ha
    simp only [RelV] at rx; subst rx
    exact ⟨rfl, #[], fun _ _ => rfl, by simp [RelL], by simp⟩
  · rename_i i off m es'
    cases hb : Nat.beq es es' with
    | false => simp [hb] at ha
    | true =>
      obtain rfl := Nat.eq_of_beq_eq_true hb
      simp only [hb, cond_true] at ha
      cases hc : readCells H i off (m * es) with
      | none => simp [hc] at ha
      | some l =>
        simp only [hc] at ha; cases ha
        simp only [RelV] at rx
        obtain ⟨loc, hl, _, _, rfl⟩ := rx
        obtain ⟨loc', vs, h1, h2, h3, _, h5, _⟩ := readCells_rel h hc
        rw [hl] at h1; cases h1
        refine ⟨rfl, vs.toArray, fun w' hw' => ?_, by simpa using h2, by rw [← h2.length, h3]⟩
        have hr := run_loadCells_list (P := P) w' ⟨loc.b, off, none⟩ vs (fun j v hv => by rw [cell_same hw']; exact h5 j v hv)
        rw [h3] at hr
        simpa [Builtin.firstCells] using hr
  · cases ha
theorem mul_split {n cap : Nat} (es : Nat) (h : n ≤ cap) : n * es + (cap - n) * es = cap * es := by
  rw [← Nat.add_mul]
  congr 1
  omega

theorem append_head {sT xT elem : TypeId} {dx : TypeDesc} {ie : TypeInfo} {base : Option Addr} {sLen sCap n : Nat} {x' : Value} (hu : und P sT = some (.slice elem)) (hx : und P xT = some dx) (hd : isIntD dx = false)
    (hi : info P elem = some ie) (hl : (Builtin.lenOf x').run P w = .ok n w) (ty : TypeId) (c : Array Value) (hf : (Builtin.firstCells ie.size n x').run P w = .ok c w) (hfit : sLen + n ≤ sCap) :
    (Builtin.append_ #[sT, xT] ty #[.slice base sLen sCap, x']).run P w = match base with
      | some a => ((storeCells (a.add (sLen * ie.size)) c.toList).run P w).andThen fun _ w' => .ok (.slice base (sLen + n) sCap) w'
      | none => .ok (.slice base (sLen + n) sCap) w := by
  have hz : (sizeOf elem).run P w = .ok ie.size w := by simp [sizeOf, run_info hi]
  unfold Builtin.append_
  cases dx <;> first
    | (cases hd; done)
    | (simp only [List.getElem?_toArray, List.getElem?_cons_zero, List.getElem?_cons_succ, Sem.run_bind, run_und hu, Result.andThen_ok, hz, run_und hx, Sem.run_pure, Bool.false_eq_true, if_false, hl, hfit, if_true, Bool.not_false, hf]
       cases base <;> simp; done)
theorem append_more {sT xT elem : TypeId} {dx : TypeDesc} {ie : TypeInfo} {base : Option Addr} {sLen sCap n : Nat} {x' : Value} {zv : Value} (hu : und P sT = some (.slice elem)) (hx : und P xT = some dx) (hd : isIntD dx = false)
    (hi : info P elem = some ie) (hz0 : (zeroValue elem).run P = fun w => .ok zv w) (hl : (Builtin.lenOf x').run P w = .ok n w) (ty : TypeId) (c old : Array Value) (hfit : sCap < sLen + n) (hb : 0 < ie.bytes) (hb2 : ie.bytes ≤ 4096) (hmost : sLen + n ≤ most)
    (hf : ∀ w' : World, w'.heap = w.heap → (Builtin.firstCells ie.size n x').run P w' = .ok c w') (ho : ∀ w' : World, w'.heap = w.heap → (Builtin.firstCells ie.size sLen (.slice base sLen sCap)).run P w' = .ok old w') :
    ∃ (w' : World) (cap : Nat), sLen + n ≤ cap ∧ (w'.heap = w.heap.push (.cells (old ++ c ++ Builtin.zeroCells zv.cells (cap - (sLen + n))) elem) ∧ Still w w') ∧
      (Builtin.append_ #[sT, xT] ty #[.slice base sLen sCap, x']).run P w = .ok (.slice (some ⟨w.heap.size, 0, none⟩) (sLen + n) cap) w' := by
  have hz : ∀ w : World, (sizeOf elem).run P w = .ok ie.size w := fun w => by simp [sizeOf, run_info hi]
  let q : Question := .appendCap (sLen + n) sCap elem
  let cap := q.cut (w.tape w.drawn q)
  have hcap : sLen + n ≤ cap := by
    show sLen + n ≤ (sLen + n) + _ % _
    omega
  refine ⟨{ w with heap := w.heap.push (.cells (old ++ c ++ Builtin.zeroCells zv.cells (cap - (sLen + n))) elem), drawn := w.drawn + 1 }, cap, hcap, ⟨rfl, rfl, rfl⟩, ?_⟩
  have hnf : ¬ (sLen + n ≤ sCap) := by omega
  have hne : ¬ (ie.bytes = 0) := by omega
  have hbound : ¬ (Builtin.nextslicecap (sLen + n) sCap * ie.bytes > 2 ^ 48) := by
    have h1 := nextslicecap_le hfit
    unfold most at hmost
    have h2 : Builtin.nextslicecap (sLen + n) sCap * ie.bytes ≤ (2 * 16777216 + 768) * 4096 := Nat.mul_le_mul (by omega) hb2
    omega
  unfold Builtin.append_
  cases dx <;> first
    | (cases hd; done)
    | (simp only [List.getElem?_toArray, List.getElem?_cons_zero, List.getElem?_cons_succ, Sem.run_bind, run_und hu, Result.andThen_ok, hz, run_und hx, Sem.run_pure, Bool.false_eq_true, if_false, hl, hnf, false_or, run_info hi, hne, and_false, hbound, run_choose, Question.forced, run_askRoom]
       rw [ho { w with drawn := w.drawn + 1 } rfl]
       simp only [Result.andThen_ok, Bool.not_false, if_true]
       rw [hf { w with drawn := w.drawn + 1 } rfl]
       simp only [Result.andThen_ok, Sem.run_bind, hz0, newRow, run_newObj, Sem.run_pure]
       rfl; done)
end Go.Am
